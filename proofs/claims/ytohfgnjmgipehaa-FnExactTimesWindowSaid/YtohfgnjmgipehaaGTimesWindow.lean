/- Functions of the program: what each computes, as a plain function, and that the call comes to it. Written by a program (wip/gen). -/
import Derived.Test.YtohfgnjmgipehaaPGrid
import Derived.Test.YtohfgnjmgipehaaProg
import Derived.KernelRfl
set_option linter.unusedVariables false
namespace Go.H
open Go Go.Proofs



noncomputable def spec_TimesWindow.s0 (a0 : List (Option Nat)) (a1 : List (Option Nat)) (x3 : List (Option Nat)) (x4 : Int) : Option (((List (Option Nat)) × Int) ⊕ (Int × Bool × (List (Option Nat)))) :=
  (if (decide (x4 < (a0.length : Int))) = true then ((idx a0 x4).bind fun (x8 : Option Nat) => ((idx a1 x4).bind fun (x9 : Option Nat) => (if x3.length + [fop .mul .f32 x8 x9].length ≤ 1000000000 then some (.inl (x3 ++ [fop .mul .f32 x8 x9], IntKind.wrap .i64 (x4 + 1))) else none))) else some (.inr (x4, decide (x4 < (a0.length : Int)), x3)))

noncomputable def spec_TimesWindow (a0 : List (Option Nat)) (a1 : List (Option Nat)) : Option ((List (Option Nat)) × Bool) :=
  ((((spec_l06Is a0).bind fun (x2 : Bool) => (if (!x2) = true then some true else some ((a1.length : Int) != (a0.length : Int)))) : Option Bool).bind fun (x1 : Bool) => (if x1 = true then some (([] : List (Option Nat)), false) else ((loopF (fun (s : ((List (Option Nat)) × Int)) => spec_TimesWindow.s0 a0 a1 s.1 s.2) (([] : List (Option Nat)), 0)).bind fun (⟨x5, x6, x7⟩ : (Int × Bool × (List (Option Nat)))) => some (x7, true))))

noncomputable def impl_TimesWindow_1 (a0 : Option Nat) (a1 : Option Nat) : Option (Option Nat) :=
  some (fop .mul .f32 a0 a1)

noncomputable def impl_both__impl_TimesWindow_1.s0 (a0 : List (Option Nat)) (a1 : List (Option Nat)) (x1 : List (Option Nat)) (x2 : Int) : Option (((List (Option Nat)) × Int) ⊕ (Int × Bool × (List (Option Nat)))) :=
  (if (decide (x2 < (a0.length : Int))) = true then ((idx a0 x2).bind fun (x6 : Option Nat) => ((idx a1 x2).bind fun (x7 : Option Nat) => ((impl_TimesWindow_1 x6 x7).bind fun (x8 : Option Nat) => (if x1.length + [x8].length ≤ 1000000000 then some (.inl (x1 ++ [x8], IntKind.wrap .i64 (x2 + 1))) else none)))) else some (.inr (x2, decide (x2 < (a0.length : Int)), x1)))

noncomputable def impl_both__impl_TimesWindow_1 (a0 : List (Option Nat)) (a1 : List (Option Nat)) : Option (List (Option Nat)) :=
  ((loopF (fun (s : ((List (Option Nat)) × Int)) => impl_both__impl_TimesWindow_1.s0 a0 a1 s.1 s.2) (([] : List (Option Nat)), 0)).bind fun (⟨x3, x4, x5⟩ : (Int × Bool × (List (Option Nat)))) => some x5)

noncomputable def impl_TimesWindow (a0 : List (Option Nat)) (a1 : List (Option Nat)) : Option ((List (Option Nat)) × Bool) :=
  ((((impl_isRecord_float32 a0).bind fun (x2 : Bool) => (if (!x2) = true then some true else some ((a1.length : Int) != (a0.length : Int)))) : Option Bool).bind fun (x1 : Bool) => (if x1 = true then some (([] : List (Option Nat)), false) else ((impl_both__impl_TimesWindow_1 a0 a1).bind fun (x3 : List (Option Nat)) => some (x3, true))))

noncomputable def laws_FnExactTimesWindow (a0 : List (Option Nat)) (a1 : List (Option Nat)) : Option Bool :=
  (if (decide ((a0.length : Int) > 1048576)) = true then some true else (if (decide ((a1.length : Int) > 1048576)) = true then some true else ((laws_toFloat32S a0).bind fun (x1 : List (Option Nat)) => ((laws_toFloat32S a1).bind fun (x2 : List (Option Nat)) => ((spec_TimesWindow x1 x2).bind fun (x3 : ((List (Option Nat)) × Bool)) => ((laws_toFloat32S a0).bind fun (x4 : List (Option Nat)) => ((laws_toFloat32S a1).bind fun (x5 : List (Option Nat)) => ((impl_TimesWindow x4 x5).bind fun (x6 : ((List (Option Nat)) × Bool)) => ((((laws_eqFloat32S x6.1 x3.1).bind fun (x8 : Bool) => (if (!x8) = true then some true else some (x6.2 != x3.2))) : Option Bool).bind fun (x7 : Bool) => (if x7 = true then some false else ((laws_toFloat32S a0).bind fun (x9 : List (Option Nat)) => ((laws_eqFloat32S x4 x9).bind fun (x10 : Bool) => (if (!x10) = true then some false else ((laws_toFloat32S a1).bind fun (x11 : List (Option Nat)) => ((laws_eqFloat32S x5 x11).bind fun (x12 : Bool) => (if (!x12) = true then some false else ((laws_markFloat32S x4 1).bind fun (x13 : (Int × (List (Option Nat)))) => ((laws_markFloat32S x5 x13.1).bind fun (x14 : (Int × (List (Option Nat)))) => (((if (decide (x14.1 < 0)) = true then some true else ((laws_eqFloat32S x6.1 x3.1).bind fun (x16 : Bool) => (if (!x16) = true then some true else some (x6.2 != x3.2)))) : Option Bool).bind fun (x15 : Bool) => (if x15 = true then some false else ((laws_markFloat32S x6.1 1).bind fun (x17 : (Int × (List (Option Nat)))) => ((laws_heldFloat32S x17.2 1).bind fun (x18 : Int) => (if (decide (x18 < 0)) = true then some false else (if (x18 != x17.1) = true then some false else ((laws_toFloat32S a0).bind fun (x19 : List (Option Nat)) => ((laws_toFloat32S a1).bind fun (x20 : List (Option Nat)) => ((impl_TimesWindow x19 x20).bind fun (x21 : ((List (Option Nat)) × Bool)) => ((((laws_eqFloat32S x21.1 x3.1).bind fun (x23 : Bool) => (if (!x23) = true then some true else some (x21.2 != x3.2))) : Option Bool).bind fun (x22 : Bool) => (if x22 = true then some false else ((laws_heldFloat32S x17.2 1).bind fun (x24 : Int) => (if (decide (x24 < 0)) = true then some false else (if (x24 != x17.1) = true then some false else some true))))))))))))))))))))))))))))))))

set_option maxRecDepth 20000 in
theorem spec_TimesWindow_ok (h0 : Heap) (u0 : Value) (a0 : List (Option Nat)) (g0 : SL (kF .f32) h0.size h0 u0 a0) (u1 : Value) (a1 : List (Option Nat)) (g1 : SL (kF .f32) h0.size h0 u1 a1) (r : ((List (Option Nat)) × Bool)) (hp : spec_TimesWindow a0 a1 = some r) : CallsH Try.prog 39 ([u0, u1].toArray ++ [].toArray) h0 (fun v h' => ∃ w0, v = (.tuple (List.toArray (α := Value) [w0, (.bool r.2)])) ∧ Mod [] h0 h' ∧ Sep [] h0.size h' [ownO (kF .f32) 40 w0 r.1]) := by
  unfold spec_TimesWindow at hp
  refine callsH_of_W (l := [u0, u1]) (cap := []) 38 Try.func39 rfl rfl rfl ?_
  refine W.seq ?_
  refine W.region ?_
  refine RL.opD (by decide) (opv_assign rfl rfl) ?_
  have S_1 : Sep [] h0.size h0 [ownO (kF .f32) 40 (.slice none 0 0) ([] : List (Option Nat))] := Sep.addNil (Sep.nil [] h0.size h0)
  refine RL.opD (by decide) (opv_assign rfl rfl) ?_
  refine RL.nil ?_
  refine thnN ?_
  refine W.seq ?_
  refine W.seq ?_
  obtain ⟨x1, hy1, hp⟩ := Option.bind_eq_some_iff.1 hp
  refine W.cut (fun φ' h' => Fr.sub [(0, u0), (1, u1), (4, (.slice none 0 0)), (5, (.bool false)), (17, (.bool x1))] φ' ∧ h0 = h') ?_ ?_
  · obtain ⟨x2, hx2, hy1⟩ := Option.bind_eq_some_iff.1 hy1
    by_cases c1 : (!x2) = true
    · rw [if_pos c1] at hy1
      refine W.region ?_
      refine RL.opD (by decide) (opv_move rfl rfl) ?_
      refine RL.op _ (by decide) (opv_call (cap := []) (spec_l06Is_ok _ _ _ g0 _ hx2) rfl rfl ⟨rfl, trivial⟩ Try.func83 rfl rfl) ?_
      rintro _ _ ⟨rfl, rfl⟩
      refine RL.opD (by decide) (opv_not rfl rfl) ?_
      refine RL.opD (by decide) (opv_move rfl rfl) ?_
      refine RL.no rfl rfl (Eq.trans c1 (by decide)) (by decide) ?_
      refine RL.no rfl rfl (Eq.trans c1 (by decide)) (by decide) ?_
      refine RL.no rfl rfl (Eq.trans c1 (by decide)) (by decide) ?_
      refine RL.no rfl rfl (Eq.trans c1 (by decide)) (by decide) ?_
      refine RL.no rfl rfl (Eq.trans c1 (by decide)) (by decide) ?_
      refine RL.opD (by decide) (opv_pick rfl rfl (fun _ => rfl) (fun e => absurd (Eq.trans (Eq.symm e) c1) (by decide)) rfl) ?_
      refine RL.nil ?_
      have ey1 := Option.some.inj hy1
      subst ey1
      refine onlyN ?_
      exact ⟨⟨rfl, rfl, rfl, rfl, rfl, trivial⟩, rfl⟩
    · rw [if_neg c1] at hy1
      have c1 := eq_false_of_ne_true c1
      refine W.region ?_
      refine RL.opD (by decide) (opv_move rfl rfl) ?_
      refine RL.op _ (by decide) (opv_call (cap := []) (spec_l06Is_ok _ _ _ g0 _ hx2) rfl rfl ⟨rfl, trivial⟩ Try.func83 rfl rfl) ?_
      rintro _ _ ⟨rfl, rfl⟩
      refine RL.opD (by decide) (opv_not rfl rfl) ?_
      refine RL.opD (by decide) (opv_move rfl rfl) ?_
      refine RL.yes _ rfl rfl c1 (by decide) (opv_move rfl rfl) ?_
      rintro _ _ ⟨rfl, rfl⟩
      refine RL.yes _ rfl rfl c1 (by decide) (opv_len rfl Try.underlying22 rfl g1) ?_
      rintro _ _ ⟨rfl, rfl⟩
      refine RL.yes _ rfl rfl c1 (by decide) (opv_move rfl rfl) ?_
      rintro _ _ ⟨rfl, rfl⟩
      refine RL.yes _ rfl rfl c1 (by decide) (opv_len rfl Try.underlying22 rfl g0) ?_
      rintro _ _ ⟨rfl, rfl⟩
      refine RL.yes _ rfl rfl c1 (by decide) (opv_icmp rfl rfl rfl rfl) ?_
      rintro _ _ ⟨rfl, rfl⟩
      refine RL.opD (by decide) (opv_pick rfl rfl (fun e => absurd (Eq.trans (Eq.symm e) c1) (by decide)) (fun _ => rfl) rfl) ?_
      refine RL.nil ?_
      have ey1 := Option.some.inj hy1
      subst ey1
      refine onlyN ?_
      exact ⟨⟨rfl, rfl, rfl, rfl, rfl, trivial⟩, rfl⟩
  rintro φ' _ ⟨hs1, rfl⟩
  refine thnN ?_
  refine W.sub hs1 ?_
  by_cases c2 : x1 = true
  · rw [if_pos c2] at hp
    refine W.condT rfl c2 ?_
    refine W.seq ?_
    refine W.region ?_
    refine RL.opD (by decide) (opv_assign rfl rfl) ?_
    have S_2 : Sep [] h0.size h0 [ownO (kF .f32) 40 (.slice none 0 0) ([] : List (Option Nat)), ownO (kF .f32) 40 (.slice none 0 0) ([] : List (Option Nat))] := Sep.addNil S_1
    refine RL.opD (by decide) (opv_assign rfl rfl) ?_
    refine RL.nil ?_
    refine thnN ?_
    refine W.ret ?_
    refine thnR ?_
    have er := Option.some.inj hp
    subst er
    exact Rt.two rfl rfl rfl ⟨(.slice none 0 0), rfl, (Mod.refl [] h0), (Sep.sel S_2 [0] (by decide))⟩
  · rw [if_neg c2] at hp
    have c2 := eq_false_of_ne_true c2
    refine W.condF rfl c2 ?_
    refine W.skip ?_
    refine thnN ?_
    refine W.seq ?_
    refine W.region ?_
    refine RL.op _ (by decide) (opS_lit0 (K := (kF .f32)) rfl Try.underlying22 Try.isinfo40) ?_
    rintro v1 hp1 ⟨MT_1, T_1⟩
    have X_1 : Mod [] h0 hp1 := Mod.step (A := []) (L := [ownO (kF .f32) 40 (.slice none 0 0) ([] : List (Option Nat))]) (Mod.refl [] h0) S_1 MT_1
    have S_3 : Sep [] h0.size hp1 [ownO (kF .f32) 40 v1 ([] : List (Option Nat)), ownO (kF .f32) 40 (.slice none 0 0) ([] : List (Option Nat))] := Sep.step (A := []) (L := [ownO (kF .f32) 40 (.slice none 0 0) ([] : List (Option Nat))]) S_1 (Mod.size (Mod.refl [] h0)) MT_1 T_1
    refine RL.opD (by decide) (opv_assign rfl rfl) ?_
    refine RL.nil ?_
    refine thnN ?_
    refine W.seq ?_
    refine W.seq ?_
    refine W.region ?_
    refine RL.opD (by decide) (opv_assign rfl rfl) ?_
    refine RL.nil ?_
    refine thnN ?_
    obtain ⟨y2, hy2, hp⟩ := Option.bind_eq_some_iff.1 hp
    refine W.cut (fun φ' h' => ∃ x5, ∃ x6, ∃ x7, ∃ v3, y2 = (x5, x6, x7) ∧ Fr.sub [(0, u0), (1, u1), (4, (.slice none 0 0)), (5, (.bool false)), (17, (.bool x1)), (7, (.int .i64 x5)), (22, (.bool x6)), (6, v3)] φ' ∧ Mod [] h0 h' ∧ Sep [] h0.size h' [ownO (kF .f32) 40 (.slice none 0 0) ([] : List (Option Nat)), ownO (kF .f32) 40 v3 x7]) ?_ ?_
    · refine W.block ?_
      refine W.loopS (fun (s : ((List (Option Nat)) × Int)) φ' h' => ∃ v2, Fr.sub [(0, u0), (1, u1), (4, (.slice none 0 0)), (5, (.bool false)), (17, (.bool x1)), (6, v2), (7, (.int .i64 s.2))] φ' ∧ Mod [] h0 h' ∧ Sep [] h0.size h' [ownO (kF .f32) 40 v2 s.1, ownO (kF .f32) 40 (.slice none 0 0) ([] : List (Option Nat))]) hy2 ⟨v1, ⟨rfl, rfl, rfl, rfl, rfl, rfl, rfl, trivial⟩, X_1, (Sep.sel S_3 [0, 1] (by decide))⟩ ?_
      rintro ⟨x3, x4⟩ φ' hp2 o1 ⟨v2, hs2, X_2, S_4⟩ ho1 hy1
      have hs2 : Fr.sub [(0, u0), (1, u1), (4, (.slice none 0 0)), (5, (.bool false)), (17, (.bool x1)), (6, v2), (7, (.int .i64 x4))] φ' := hs2
      have S_4 : Sep [] h0.size hp2 [ownO (kF .f32) 40 v2 x3, ownO (kF .f32) 40 (.slice none 0 0) ([] : List (Option Nat))] := S_4
      have ho1 : spec_TimesWindow.s0 a0 a1 x3 x4 = some o1 := ho1
      unfold spec_TimesWindow.s0 at ho1
      refine W.sub hs2 ?_
      refine W.seq ?_
      refine W.seq ?_
      refine W.region ?_
      refine RL.opD (by decide) (opv_move rfl rfl) ?_
      refine RL.opD (by decide) (opv_move rfl rfl) ?_
      refine RL.opD (by decide) (opv_len rfl Try.underlying22 rfl (SL.mod g0 X_2 (Nat.le_refl _) nob)) ?_
      refine RL.opD (by decide) (opv_icmp rfl rfl rfl rfl) ?_
      refine RL.nil ?_
      refine thnN ?_
      by_cases c3 : (decide (x4 < (a0.length : Int))) = true
      · rw [if_pos c3] at ho1
        refine W.condT rfl c3 ?_
        refine W.skip ?_
        refine thnN ?_
        refine W.seq ?_
        refine W.block ?_
        obtain ⟨x8, hx8, ho1⟩ := Option.bind_eq_some_iff.1 ho1
        obtain ⟨x9, hx9, ho1⟩ := Option.bind_eq_some_iff.1 ho1
        obtain ⟨c4, ho1⟩ := of_ite ho1
        refine W.sub (ψ := [(0, u0), (1, u1), (4, (.slice none 0 0)), (5, (.bool false)), (17, (.bool x1)), (6, v2), (7, (.int .i64 x4)), (22, (.bool (decide (x4 < (a0.length : Int)))))]) ⟨rfl, rfl, rfl, rfl, rfl, rfl, rfl, rfl, trivial⟩ ?_
        refine W.regionS [fun v _ => @Eq Value v2 v, fun v _ => @Eq Value u0 v, fun v _ => @Eq Value (.int .i64 x4) v, fun v _ => PtI 1 v u0 (Int.toNat x4), fun v _ => IsF .f32 v x8, fun v _ => @Eq Value u1 v, fun v _ => @Eq Value (.int .i64 x4) v, fun v _ => PtI 1 v u1 (Int.toNat x4), fun v _ => IsF .f32 v x9, fun v _ => IsF .f32 v (fop .mul .f32 x8 x9), fun v h => Sep [] hp2.size h [ownO (kF .f32) 40 v [fop .mul .f32 x8 x9]]] [[], [], [], [1, 2], [3], [], [], [5, 6], [7], [4, 8], [9]] [0, 10] Try.mixed (by decide +kernel) (by decide +kernel) rfl rfl rfl ⟨fun _ _ _ h _ => h, fun _ _ _ h _ => h, fun _ _ _ h _ => h, fun _ _ _ h _ => h, fun _ _ _ h _ => h, fun _ _ _ h _ => h, fun _ _ _ h _ => h, fun _ _ _ h _ => h, fun _ _ _ h _ => h, fun _ _ _ h _ => h, fun _ _ _ h x => h.ext x, trivial⟩ ?_ ?_
        · refine ⟨⟨rfl, ?_⟩, ⟨rfl, ?_⟩, ⟨rfl, ?_⟩, ⟨rfl, ?_⟩, ⟨rfl, ?_⟩, ⟨rfl, ?_⟩, ⟨rfl, ?_⟩, ⟨rfl, ?_⟩, ⟨rfl, ?_⟩, ⟨rfl, ?_⟩, ⟨rfl, ?_⟩, trivial⟩
          · rintro hp5 E_1
            refine Dep.nil ?_
            refine GuardOK.none rfl ?_
            exact OpV.toDx (opv_move rfl rfl) rfl
          · rintro hp6 E_2
            refine Dep.nil ?_
            refine GuardOK.none rfl ?_
            exact OpV.toDx (opv_move rfl rfl) rfl
          · rintro hp7 E_3
            refine Dep.nil ?_
            refine GuardOK.none rfl ?_
            exact OpV.toDx (opv_move rfl rfl) rfl
          · rintro hp8 E_4 _ rfl _ rfl
            refine Dep.nil ?_
            refine GuardOK.none rfl ?_
            exact OpV.toSx (opv_index rfl Try.underlying22 (by rw [Try.size40]; rfl) rfl rfl (SL.mod g0 (Mod.lift X_2 E_4) (Nat.le_refl _) nob) hx8) (fun _ h => h)
          · rintro hp9 E_5 v4 fv4
            refine Dep.nil ?_
            refine GuardOK.none rfl ?_
            exact OpV.toSx (opv_loadF rfl Try.one40 rfl fv4 (SL.mod g0 (Mod.lift X_2 E_5) (Nat.le_refl _) nob) hx8) (fun _ h => h)
          · rintro hp10 E_6
            refine Dep.nil ?_
            refine GuardOK.none rfl ?_
            exact OpV.toDx (opv_move rfl rfl) rfl
          · rintro hp11 E_7
            refine Dep.nil ?_
            refine GuardOK.none rfl ?_
            exact OpV.toDx (opv_move rfl rfl) rfl
          · rintro hp12 E_8 _ rfl _ rfl
            refine Dep.nil ?_
            refine GuardOK.none rfl ?_
            exact OpV.toSx (opv_index rfl Try.underlying22 (by rw [Try.size40]; rfl) rfl rfl (SL.mod g1 (Mod.lift X_2 E_8) (Nat.le_refl _) nob) hx9) (fun _ h => h)
          · rintro hp13 E_9 v6 fv6
            refine Dep.nil ?_
            refine GuardOK.none rfl ?_
            exact OpV.toSx (opv_loadF rfl Try.one40 rfl fv6 (SL.mod g1 (Mod.lift X_2 E_9) (Nat.le_refl _) nob) hx9) (fun _ h => h)
          · rintro hp14 E_10 v5 fv5 v7 fv7
            refine Dep.nil ?_
            refine GuardOK.none rfl ?_
            exact OpV.toSx (opv_fop rfl rfl rfl rfl fv5 fv7) (fun _ h => h)
          · rintro hp15 E_11 v8 fv8
            refine Dep.nil ?_
            refine GuardOK.none rfl ?_
            exact OpV.mono (opS_lit1 (K := (kF .f32)) (z := (fop .mul .f32 x8 x9)) rfl Try.underlying22 Try.einfo40 rfl rfl rfl rfl ⟨_, rfl, fv8⟩) (by rintro _ _ ⟨M_, T_⟩; exact ⟨Mod.ext M_, Sep.weak T_ (Ext.size E_11)⟩)
        rintro hp16 E_12 _ rfl v9 T_2
        have X_5 : Mod [] h0 hp16 := Mod.lift X_2 E_12
        have S_8 : Sep [] h0.size hp16 [ownO (kF .f32) 40 v9 [fop .mul .f32 x8 x9], ownO (kF .f32) 40 v2 x3, ownO (kF .f32) 40 (.slice none 0 0) ([] : List (Option Nat))] := Sep.join S_4 (Mod.size X_2) (Ext.mod E_12 []) T_2
        refine Dep.nil ?_
        show RL _ _ _ _ (_ :: _) _ _
        refine RL.op _ (by decide) (opS_append (K := (kF .f32)) rfl Try.underlying22 Try.einfo40 rfl rfl rfl rfl (Sep.at (o := ownO (kF .f32) 40 v2 x3) S_8 1 rfl) (ownO.read (Sep.at (o := ownO (kF .f32) 40 v9 [fop .mul .f32 x8 x9]) S_8 0 rfl)) (by decide) (by decide) c4) ?_
        rintro v11 hp17 ⟨MT_4, T_4⟩
        have S_9 : Sep [] h0.size hp16 ([ownO (kF .f32) 40 v2 x3] ++ [ownO (kF .f32) 40 v9 [fop .mul .f32 x8 x9], ownO (kF .f32) 40 (.slice none 0 0) ([] : List (Option Nat))]) := Sep.sel S_8 [1, 0, 2] (by decide)
        have X_6 : Mod [] h0 hp17 := Mod.step (A := [ownO (kF .f32) 40 v2 x3]) (L := [ownO (kF .f32) 40 v9 [fop .mul .f32 x8 x9], ownO (kF .f32) 40 (.slice none 0 0) ([] : List (Option Nat))]) X_5 S_9 MT_4
        have S_10 : Sep [] h0.size hp17 [ownO (kF .f32) 40 v11 (x3 ++ [fop .mul .f32 x8 x9]), ownO (kF .f32) 40 v9 [fop .mul .f32 x8 x9], ownO (kF .f32) 40 (.slice none 0 0) ([] : List (Option Nat))] := Sep.step (A := [ownO (kF .f32) 40 v2 x3]) (L := [ownO (kF .f32) 40 v9 [fop .mul .f32 x8 x9], ownO (kF .f32) 40 (.slice none 0 0) ([] : List (Option Nat))]) S_9 (Mod.size X_5) MT_4 T_4
        refine RL.opD (by decide) (opv_assign rfl rfl) ?_
        refine RL.nil ?_
        refine blkN ?_
        refine thnN ?_
        refine W.region ?_
        refine RL.opD (by decide) (opv_move rfl rfl) ?_
        refine RL.opD (by decide) (opv_add rfl rfl rfl) ?_
        refine RL.opD (by decide) (opv_assign rfl rfl) ?_
        refine RL.nil ?_
        have eo1 := Option.some.inj ho1
        subst eo1
        refine rndN (s' := (x3 ++ [fop .mul .f32 x8 x9], IntKind.wrap .i64 (x4 + 1))) rfl ?_
        exact ⟨v11, ⟨rfl, rfl, rfl, rfl, rfl, rfl, rfl, trivial⟩, X_6, (Sep.sel S_10 [0, 2] (by decide))⟩
      · rw [if_neg c3] at ho1
        have c3 := eq_false_of_ne_true c3
        refine W.condF rfl c3 ?_
        refine W.exit ?_
        refine thnX ?_
        refine rndX ?_
        refine blkI ?_
        have eo1 := Option.some.inj ho1
        subst eo1
        have ey2 := hy1 _ rfl
        subst ey2
        refine onlyN ?_
        exact ⟨x4, decide (x4 < (a0.length : Int)), x3, v2, rfl, ⟨rfl, rfl, rfl, rfl, rfl, rfl, rfl, rfl, trivial⟩, X_2, (Sep.sel S_4 [1, 0] (by decide))⟩
    rintro φ' hp18 ⟨x5, x6, x7, v3, rfl, hs3, X_7, S_11⟩
    try dsimp only at hp
    refine thnN ?_
    refine W.sub hs3 ?_
    refine W.seq ?_
    refine W.region ?_
    refine RL.opD (by decide) (opv_move rfl rfl) ?_
    refine RL.opD (by decide) (opv_assign rfl rfl) ?_
    refine RL.opD (by decide) (opv_assign rfl rfl) ?_
    refine RL.nil ?_
    refine thnN ?_
    refine W.ret ?_
    have er := Option.some.inj hp
    subst er
    exact Rt.two rfl rfl rfl ⟨v3, rfl, X_7, (Sep.sel S_11 [1] (by decide))⟩

set_option maxRecDepth 20000 in
theorem impl_TimesWindow_1_ok (h0 : Heap) (u0 : Value) (a0 : Option Nat) (g0 : IsF .f32 u0 a0) (u1 : Value) (a1 : Option Nat) (g1 : IsF .f32 u1 a1) (r : Option Nat) (hp : impl_TimesWindow_1 a0 a1 = some r) : CallsH Try.prog 94 ([u0, u1].toArray ++ [].toArray) h0 (fun v h' => IsF .f32 v r ∧ h0 = h') := by
  unfold impl_TimesWindow_1 at hp
  refine callsH_of_W (l := [u0, u1]) (cap := []) 8 Try.func94 rfl rfl rfl ?_
  refine W.seq ?_
  refine W.region ?_
  refine RL.opD (by decide) (opv_assign rfl rfl) ?_
  refine RL.nil ?_
  refine thnN ?_
  refine W.seq ?_
  refine W.region ?_
  refine RL.opD (by decide) (opv_move rfl rfl) ?_
  refine RL.opD (by decide) (opv_move rfl rfl) ?_
  refine RL.opF (by decide) (opv_fop rfl rfl rfl rfl g0 g1) ?_
  intro v1 fv1
  refine RL.opD (by decide) (opv_assign rfl rfl) ?_
  refine RL.nil ?_
  refine thnN ?_
  refine W.ret ?_
  have er := Option.some.inj hp
  subst er
  exact Rt.one rfl rfl ⟨fv1, rfl⟩

set_option maxRecDepth 20000 in
theorem impl_both__impl_TimesWindow_1_ok (h0 : Heap) (u0 : Value) (a0 : List (Option Nat)) (g0 : SL (kF .f32) h0.size h0 u0 a0) (u1 : Value) (a1 : List (Option Nat)) (g1 : SL (kF .f32) h0.size h0 u1 a1) (r : List (Option Nat)) (hp : impl_both__impl_TimesWindow_1 a0 a1 = some r) : CallsH Try.prog 93 ([u0, u1, (.func (.func 94) #[] [].toArray)].toArray ++ [].toArray) h0 (fun v h' => Mod [] h0 h' ∧ Sep [] h0.size h' [ownO (kF .f32) 40 v r]) := by
  unfold impl_both__impl_TimesWindow_1 at hp
  refine callsH_of_W (l := [u0, u1, (.func (.func 94) #[] [].toArray)]) (cap := []) 30 Try.func93 rfl rfl rfl ?_
  refine W.seq ?_
  refine W.region ?_
  refine RL.opD (by decide) (opv_assign rfl rfl) ?_
  have S_1 : Sep [] h0.size h0 [ownO (kF .f32) 40 (.slice none 0 0) ([] : List (Option Nat))] := Sep.addNil (Sep.nil [] h0.size h0)
  refine RL.nil ?_
  refine thnN ?_
  refine W.seq ?_
  refine W.region ?_
  refine RL.op _ (by decide) (opS_lit0 (K := (kF .f32)) rfl Try.underlying22 Try.isinfo40) ?_
  rintro v1 hp1 ⟨MT_1, T_1⟩
  have X_1 : Mod [] h0 hp1 := Mod.step (A := []) (L := [ownO (kF .f32) 40 (.slice none 0 0) ([] : List (Option Nat))]) (Mod.refl [] h0) S_1 MT_1
  have S_2 : Sep [] h0.size hp1 [ownO (kF .f32) 40 v1 ([] : List (Option Nat)), ownO (kF .f32) 40 (.slice none 0 0) ([] : List (Option Nat))] := Sep.step (A := []) (L := [ownO (kF .f32) 40 (.slice none 0 0) ([] : List (Option Nat))]) S_1 (Mod.size (Mod.refl [] h0)) MT_1 T_1
  refine RL.opD (by decide) (opv_assign rfl rfl) ?_
  refine RL.nil ?_
  refine thnN ?_
  refine W.seq ?_
  refine W.seq ?_
  refine W.region ?_
  refine RL.opD (by decide) (opv_move rfl rfl) ?_
  refine RL.opD (by decide) (opv_len rfl Try.underlying22 rfl (SL.mod g0 X_1 (Nat.le_refl _) nob)) ?_
  refine RL.opD (by decide) (opv_move rfl rfl) ?_
  refine RL.nil ?_
  refine thnN ?_
  obtain ⟨y1, hy1, hp⟩ := Option.bind_eq_some_iff.1 hp
  refine W.cut (fun φ' h' => ∃ x3, ∃ x4, ∃ x5, ∃ v3, y1 = (x3, x4, x5) ∧ Fr.sub [(0, u0), (1, u1), (2, (.func (.func 94) #[] [].toArray)), (6, (.slice none 0 0)), (11, u0), (12, (.int .i64 (a0.length : Int))), (13, (.int .i64 x3)), (14, (.bool x4)), (7, v3)] φ' ∧ Mod [] h0 h' ∧ Sep [] h0.size h' [ownO (kF .f32) 40 (.slice none 0 0) ([] : List (Option Nat)), ownO (kF .f32) 40 v3 x5]) ?_ ?_
  · refine W.block ?_
    refine W.loopS (fun (s : ((List (Option Nat)) × Int)) φ' h' => ∃ v2, Fr.sub [(0, u0), (1, u1), (2, (.func (.func 94) #[] [].toArray)), (6, (.slice none 0 0)), (11, u0), (12, (.int .i64 (a0.length : Int))), (7, v2), (13, (.int .i64 s.2))] φ' ∧ Mod [] h0 h' ∧ Sep [] h0.size h' [ownO (kF .f32) 40 v2 s.1, ownO (kF .f32) 40 (.slice none 0 0) ([] : List (Option Nat))]) hy1 ⟨v1, ⟨rfl, rfl, rfl, rfl, rfl, rfl, rfl, rfl, trivial⟩, X_1, (Sep.sel S_2 [0, 1] (by decide))⟩ ?_
    rintro ⟨x1, x2⟩ φ' hp2 o1 ⟨v2, hs1, X_2, S_3⟩ ho1 hy1
    have hs1 : Fr.sub [(0, u0), (1, u1), (2, (.func (.func 94) #[] [].toArray)), (6, (.slice none 0 0)), (11, u0), (12, (.int .i64 (a0.length : Int))), (7, v2), (13, (.int .i64 x2))] φ' := hs1
    have S_3 : Sep [] h0.size hp2 [ownO (kF .f32) 40 v2 x1, ownO (kF .f32) 40 (.slice none 0 0) ([] : List (Option Nat))] := S_3
    have ho1 : impl_both__impl_TimesWindow_1.s0 a0 a1 x1 x2 = some o1 := ho1
    unfold impl_both__impl_TimesWindow_1.s0 at ho1
    refine W.sub hs1 ?_
    refine W.seq ?_
    refine W.region ?_
    refine RL.opD (by decide) (opv_icmp rfl rfl rfl rfl) ?_
    refine RL.nil ?_
    refine thnN ?_
    refine W.seq ?_
    by_cases c1 : (decide (x2 < (a0.length : Int))) = true
    · rw [if_pos c1] at ho1
      refine W.condT rfl c1 ?_
      refine W.skip ?_
      refine thnN ?_
      refine W.seq ?_
      refine W.block ?_
      refine W.seq ?_
      obtain ⟨x6, hx6, ho1⟩ := Option.bind_eq_some_iff.1 ho1
      refine W.region ?_
      refine RL.opD (by decide) (opv_move rfl rfl) ?_
      refine RL.op _ (by decide) (opv_index rfl Try.underlying22 (by rw [Try.size40]; rfl) rfl rfl (SL.mod g0 X_2 (Nat.le_refl _) nob) hx6) ?_
      rintro v4 _ ⟨fv4, rfl⟩
      refine RL.opF (by decide) (opv_loadF rfl Try.one40 rfl fv4 (SL.mod g0 X_2 (Nat.le_refl _) nob) hx6) ?_
      intro v5 fv5
      refine RL.opD (by decide) (opv_assign rfl rfl) ?_
      refine RL.opD (by decide) (opv_assign rfl rfl) ?_
      refine RL.nil ?_
      refine thnN ?_
      obtain ⟨x7, hx7, ho1⟩ := Option.bind_eq_some_iff.1 ho1
      obtain ⟨x8, hx8, ho1⟩ := Option.bind_eq_some_iff.1 ho1
      obtain ⟨c2, ho1⟩ := of_ite ho1
      refine W.region ?_
      refine RL.opD (by decide) (opv_move rfl rfl) ?_
      refine RL.opD (by decide) (opv_move rfl rfl) ?_
      refine RL.opD (by decide) (opv_move rfl rfl) ?_
      refine RL.opD (by decide) (opv_move rfl rfl) ?_
      refine RL.opD (by decide) (opv_move rfl rfl) ?_
      refine RL.op _ (by decide) (opv_index rfl Try.underlying22 (by rw [Try.size40]; rfl) rfl rfl (SL.mod g1 X_2 (Nat.le_refl _) nob) hx7) ?_
      rintro v6 _ ⟨fv6, rfl⟩
      refine RL.opF (by decide) (opv_loadF rfl Try.one40 rfl fv6 (SL.mod g1 X_2 (Nat.le_refl _) nob) hx7) ?_
      intro v7 fv7
      refine RL.op _ (by decide) (opv_call (cap := []) (impl_TimesWindow_1_ok _ _ _ fv5 _ _ fv7 _ hx8) rfl rfl ⟨rfl, rfl, trivial⟩ Try.func94 rfl rfl) ?_
      rintro v8 _ ⟨fv8, rfl⟩
      refine RL.op _ (by decide) (opS_lit1 (K := (kF .f32)) (z := x8) rfl Try.underlying22 Try.einfo40 rfl rfl rfl rfl ⟨_, rfl, fv8⟩) ?_
      rintro v9 hp3 ⟨MT_2, T_2⟩
      have X_3 : Mod [] h0 hp3 := Mod.step (A := []) (L := [ownO (kF .f32) 40 v2 x1, ownO (kF .f32) 40 (.slice none 0 0) ([] : List (Option Nat))]) X_2 S_3 MT_2
      have S_4 : Sep [] h0.size hp3 [ownO (kF .f32) 40 v9 [x8], ownO (kF .f32) 40 v2 x1, ownO (kF .f32) 40 (.slice none 0 0) ([] : List (Option Nat))] := Sep.step (A := []) (L := [ownO (kF .f32) 40 v2 x1, ownO (kF .f32) 40 (.slice none 0 0) ([] : List (Option Nat))]) S_3 (Mod.size X_2) MT_2 T_2
      refine RL.op _ (by decide) (opS_append (K := (kF .f32)) rfl Try.underlying22 Try.einfo40 rfl rfl rfl rfl (Sep.at (o := ownO (kF .f32) 40 v2 x1) S_4 1 rfl) (ownO.read (Sep.at (o := ownO (kF .f32) 40 v9 [x8]) S_4 0 rfl)) (by decide) (by decide) c2) ?_
      rintro v10 hp4 ⟨MT_3, T_3⟩
      have S_5 : Sep [] h0.size hp3 ([ownO (kF .f32) 40 v2 x1] ++ [ownO (kF .f32) 40 v9 [x8], ownO (kF .f32) 40 (.slice none 0 0) ([] : List (Option Nat))]) := Sep.sel S_4 [1, 0, 2] (by decide)
      have X_4 : Mod [] h0 hp4 := Mod.step (A := [ownO (kF .f32) 40 v2 x1]) (L := [ownO (kF .f32) 40 v9 [x8], ownO (kF .f32) 40 (.slice none 0 0) ([] : List (Option Nat))]) X_3 S_5 MT_3
      have S_6 : Sep [] h0.size hp4 [ownO (kF .f32) 40 v10 (x1 ++ [x8]), ownO (kF .f32) 40 v9 [x8], ownO (kF .f32) 40 (.slice none 0 0) ([] : List (Option Nat))] := Sep.step (A := [ownO (kF .f32) 40 v2 x1]) (L := [ownO (kF .f32) 40 v9 [x8], ownO (kF .f32) 40 (.slice none 0 0) ([] : List (Option Nat))]) S_5 (Mod.size X_3) MT_3 T_3
      refine RL.opD (by decide) (opv_assign rfl rfl) ?_
      refine RL.nil ?_
      refine blkN ?_
      refine thnN ?_
      refine W.region ?_
      refine RL.opD (by decide) (opv_add rfl rfl rfl) ?_
      refine RL.opD (by decide) (opv_move rfl rfl) ?_
      refine RL.nil ?_
      have eo1 := Option.some.inj ho1
      subst eo1
      refine rndN (s' := (x1 ++ [x8], IntKind.wrap .i64 (x2 + 1))) rfl ?_
      exact ⟨v10, ⟨rfl, rfl, rfl, rfl, rfl, rfl, rfl, rfl, trivial⟩, X_4, (Sep.sel S_6 [0, 2] (by decide))⟩
    · rw [if_neg c1] at ho1
      have c1 := eq_false_of_ne_true c1
      refine W.condF rfl c1 ?_
      refine W.exit ?_
      refine thnX ?_
      refine rndX ?_
      refine blkI ?_
      have eo1 := Option.some.inj ho1
      subst eo1
      have ey1 := hy1 _ rfl
      subst ey1
      refine onlyN ?_
      exact ⟨x2, decide (x2 < (a0.length : Int)), x1, v2, rfl, ⟨rfl, rfl, rfl, rfl, rfl, rfl, rfl, rfl, rfl, trivial⟩, X_2, (Sep.sel S_3 [1, 0] (by decide))⟩
  rintro φ' hp5 ⟨x3, x4, x5, v3, rfl, hs2, X_5, S_7⟩
  try dsimp only at hp
  refine thnN ?_
  refine W.sub hs2 ?_
  refine W.seq ?_
  refine W.region ?_
  refine RL.opD (by decide) (opv_move rfl rfl) ?_
  refine RL.opD (by decide) (opv_assign rfl rfl) ?_
  refine RL.nil ?_
  refine thnN ?_
  refine W.ret ?_
  have er := Option.some.inj hp
  subst er
  exact Rt.one rfl rfl ⟨X_5, (Sep.sel S_7 [1] (by decide))⟩

set_option maxRecDepth 20000 in
theorem impl_TimesWindow_ok (h0 : Heap) (u0 : Value) (a0 : List (Option Nat)) (g0 : SL (kF .f32) h0.size h0 u0 a0) (u1 : Value) (a1 : List (Option Nat)) (g1 : SL (kF .f32) h0.size h0 u1 a1) (r : ((List (Option Nat)) × Bool)) (hp : impl_TimesWindow a0 a1 = some r) : CallsH Try.prog 40 ([u0, u1].toArray ++ [].toArray) h0 (fun v h' => ∃ w0, v = (.tuple (List.toArray (α := Value) [w0, (.bool r.2)])) ∧ Mod [] h0 h' ∧ Sep [] h0.size h' [ownO (kF .f32) 40 w0 r.1]) := by
  unfold impl_TimesWindow at hp
  refine callsH_of_W (l := [u0, u1]) (cap := []) 19 Try.func40 rfl rfl rfl ?_
  refine W.seq ?_
  refine W.region ?_
  refine RL.opD (by decide) (opv_assign rfl rfl) ?_
  have S_1 : Sep [] h0.size h0 [ownO (kF .f32) 40 (.slice none 0 0) ([] : List (Option Nat))] := Sep.addNil (Sep.nil [] h0.size h0)
  refine RL.opD (by decide) (opv_assign rfl rfl) ?_
  refine RL.nil ?_
  refine thnN ?_
  refine W.seq ?_
  refine W.seq ?_
  obtain ⟨x1, hy1, hp⟩ := Option.bind_eq_some_iff.1 hp
  refine W.cut (fun φ' h' => Fr.sub [(0, u0), (1, u1), (4, (.slice none 0 0)), (5, (.bool false)), (15, (.bool x1))] φ' ∧ h0 = h') ?_ ?_
  · obtain ⟨x2, hx2, hy1⟩ := Option.bind_eq_some_iff.1 hy1
    by_cases c1 : (!x2) = true
    · rw [if_pos c1] at hy1
      refine W.region ?_
      refine RL.opD (by decide) (opv_move rfl rfl) ?_
      refine RL.op _ (by decide) (opv_call (cap := []) (impl_isRecord_float32_ok _ _ _ g0 _ hx2) rfl rfl ⟨rfl, trivial⟩ Try.func86 rfl rfl) ?_
      rintro _ _ ⟨rfl, rfl⟩
      refine RL.opD (by decide) (opv_not rfl rfl) ?_
      refine RL.opD (by decide) (opv_move rfl rfl) ?_
      refine RL.no rfl rfl (Eq.trans c1 (by decide)) (by decide) ?_
      refine RL.no rfl rfl (Eq.trans c1 (by decide)) (by decide) ?_
      refine RL.no rfl rfl (Eq.trans c1 (by decide)) (by decide) ?_
      refine RL.no rfl rfl (Eq.trans c1 (by decide)) (by decide) ?_
      refine RL.no rfl rfl (Eq.trans c1 (by decide)) (by decide) ?_
      refine RL.opD (by decide) (opv_pick rfl rfl (fun _ => rfl) (fun e => absurd (Eq.trans (Eq.symm e) c1) (by decide)) rfl) ?_
      refine RL.nil ?_
      have ey1 := Option.some.inj hy1
      subst ey1
      refine onlyN ?_
      exact ⟨⟨rfl, rfl, rfl, rfl, rfl, trivial⟩, rfl⟩
    · rw [if_neg c1] at hy1
      have c1 := eq_false_of_ne_true c1
      refine W.region ?_
      refine RL.opD (by decide) (opv_move rfl rfl) ?_
      refine RL.op _ (by decide) (opv_call (cap := []) (impl_isRecord_float32_ok _ _ _ g0 _ hx2) rfl rfl ⟨rfl, trivial⟩ Try.func86 rfl rfl) ?_
      rintro _ _ ⟨rfl, rfl⟩
      refine RL.opD (by decide) (opv_not rfl rfl) ?_
      refine RL.opD (by decide) (opv_move rfl rfl) ?_
      refine RL.yes _ rfl rfl c1 (by decide) (opv_move rfl rfl) ?_
      rintro _ _ ⟨rfl, rfl⟩
      refine RL.yes _ rfl rfl c1 (by decide) (opv_len rfl Try.underlying22 rfl g1) ?_
      rintro _ _ ⟨rfl, rfl⟩
      refine RL.yes _ rfl rfl c1 (by decide) (opv_move rfl rfl) ?_
      rintro _ _ ⟨rfl, rfl⟩
      refine RL.yes _ rfl rfl c1 (by decide) (opv_len rfl Try.underlying22 rfl g0) ?_
      rintro _ _ ⟨rfl, rfl⟩
      refine RL.yes _ rfl rfl c1 (by decide) (opv_icmp rfl rfl rfl rfl) ?_
      rintro _ _ ⟨rfl, rfl⟩
      refine RL.opD (by decide) (opv_pick rfl rfl (fun e => absurd (Eq.trans (Eq.symm e) c1) (by decide)) (fun _ => rfl) rfl) ?_
      refine RL.nil ?_
      have ey1 := Option.some.inj hy1
      subst ey1
      refine onlyN ?_
      exact ⟨⟨rfl, rfl, rfl, rfl, rfl, trivial⟩, rfl⟩
  rintro φ' _ ⟨hs1, rfl⟩
  refine thnN ?_
  refine W.sub hs1 ?_
  by_cases c2 : x1 = true
  · rw [if_pos c2] at hp
    refine W.condT rfl c2 ?_
    refine W.seq ?_
    refine W.region ?_
    refine RL.opD (by decide) (opv_assign rfl rfl) ?_
    have S_2 : Sep [] h0.size h0 [ownO (kF .f32) 40 (.slice none 0 0) ([] : List (Option Nat)), ownO (kF .f32) 40 (.slice none 0 0) ([] : List (Option Nat))] := Sep.addNil S_1
    refine RL.opD (by decide) (opv_assign rfl rfl) ?_
    refine RL.nil ?_
    refine thnN ?_
    refine W.ret ?_
    refine thnR ?_
    have er := Option.some.inj hp
    subst er
    exact Rt.two rfl rfl rfl ⟨(.slice none 0 0), rfl, (Mod.refl [] h0), (Sep.sel S_2 [0] (by decide))⟩
  · rw [if_neg c2] at hp
    have c2 := eq_false_of_ne_true c2
    refine W.condF rfl c2 ?_
    refine W.skip ?_
    refine thnN ?_
    refine W.seq ?_
    obtain ⟨x3, hx3, hp⟩ := Option.bind_eq_some_iff.1 hp
    refine W.region ?_
    refine RL.opD (by decide) (opv_move rfl rfl) ?_
    refine RL.opD (by decide) (opv_move rfl rfl) ?_
    refine RL.op _ (by decide) (opv_call (cap := []) (impl_both__impl_TimesWindow_1_ok _ _ _ g0 _ _ g1 _ hx3) rfl rfl ⟨rfl, rfl, rfl, trivial⟩ Try.func93 rfl rfl) ?_
    rintro v1 hp1 ⟨MT_1, T_1⟩
    have X_1 : Mod [] h0 hp1 := Mod.step (A := []) (L := [ownO (kF .f32) 40 (.slice none 0 0) ([] : List (Option Nat))]) (Mod.refl [] h0) S_1 MT_1
    have S_3 : Sep [] h0.size hp1 [ownO (kF .f32) 40 v1 x3, ownO (kF .f32) 40 (.slice none 0 0) ([] : List (Option Nat))] := Sep.step (A := []) (L := [ownO (kF .f32) 40 (.slice none 0 0) ([] : List (Option Nat))]) S_1 (Mod.size (Mod.refl [] h0)) MT_1 T_1
    refine RL.opD (by decide) (opv_assign rfl rfl) ?_
    refine RL.opD (by decide) (opv_assign rfl rfl) ?_
    refine RL.nil ?_
    refine thnN ?_
    refine W.ret ?_
    have er := Option.some.inj hp
    subst er
    exact Rt.two rfl rfl rfl ⟨v1, rfl, X_1, (Sep.sel S_3 [0] (by decide))⟩

set_option maxRecDepth 20000 in
theorem laws_FnExactTimesWindow_ok (h0 : Heap) (u0 : Value) (a0 : List (Option Nat)) (g0 : SL (kF .f32) h0.size h0 u0 a0) (u1 : Value) (a1 : List (Option Nat)) (g1 : SL (kF .f32) h0.size h0 u1 a1) (r : Bool) (hp : laws_FnExactTimesWindow a0 a1 = some r) : CallsH Try.prog 7 ([u0, u1].toArray ++ [].toArray) h0 (fun v h' => v = (.bool r) ∧ Mod [] h0 h' ∧ Sep [] h0.size h' []) := by
  unfold laws_FnExactTimesWindow at hp
  refine callsH_of_W (l := [u0, u1]) (cap := []) 114 Try.func7 rfl rfl rfl ?_
  refine W.seq ?_
  refine W.region ?_
  refine RL.opD (by decide) (opv_assign rfl rfl) ?_
  refine RL.nil ?_
  refine thnN ?_
  refine W.seq ?_
  refine W.seq ?_
  refine W.region ?_
  refine RL.opD (by decide) (opv_move rfl rfl) ?_
  refine RL.opD (by decide) (opv_len rfl Try.underlying22 rfl g0) ?_
  refine RL.opD (by decide) (opv_icmp rfl rfl rfl rfl) ?_
  refine RL.nil ?_
  refine thnN ?_
  by_cases c1 : (decide ((a0.length : Int) > 1048576)) = true
  · rw [if_pos c1] at hp
    refine W.condT rfl c1 ?_
    refine W.seq ?_
    refine W.region ?_
    refine RL.opD (by decide) (opv_assign rfl rfl) ?_
    refine RL.nil ?_
    refine thnN ?_
    refine W.ret ?_
    refine thnR ?_
    have er := Option.some.inj hp
    subst er
    exact Rt.one rfl rfl ⟨rfl, (Mod.refl [] h0), (Sep.nil _ _ _)⟩
  · rw [if_neg c1] at hp
    have c1 := eq_false_of_ne_true c1
    refine W.condF rfl c1 ?_
    refine W.skip ?_
    refine thnN ?_
    refine W.seq ?_
    refine W.seq ?_
    refine W.region ?_
    refine RL.opD (by decide) (opv_move rfl rfl) ?_
    refine RL.opD (by decide) (opv_len rfl Try.underlying22 rfl g1) ?_
    refine RL.opD (by decide) (opv_icmp rfl rfl rfl rfl) ?_
    refine RL.nil ?_
    refine thnN ?_
    by_cases c2 : (decide ((a1.length : Int) > 1048576)) = true
    · rw [if_pos c2] at hp
      refine W.condT rfl c2 ?_
      refine W.seq ?_
      refine W.region ?_
      refine RL.opD (by decide) (opv_assign rfl rfl) ?_
      refine RL.nil ?_
      refine thnN ?_
      refine W.ret ?_
      refine thnR ?_
      have er := Option.some.inj hp
      subst er
      exact Rt.one rfl rfl ⟨rfl, (Mod.refl [] h0), (Sep.nil _ _ _)⟩
    · rw [if_neg c2] at hp
      have c2 := eq_false_of_ne_true c2
      refine W.condF rfl c2 ?_
      refine W.skip ?_
      refine thnN ?_
      refine W.seq ?_
      obtain ⟨x1, hx1, hp⟩ := Option.bind_eq_some_iff.1 hp
      obtain ⟨x2, hx2, hp⟩ := Option.bind_eq_some_iff.1 hp
      obtain ⟨x3, hx3, hp⟩ := Option.bind_eq_some_iff.1 hp
      refine W.region ?_
      refine RL.opD (by decide) (opv_move rfl rfl) ?_
      refine RL.op _ (by decide) (opv_call (cap := []) (laws_toFloat32S_ok _ _ _ g0 _ hx1) rfl rfl ⟨rfl, trivial⟩ Try.func30 rfl rfl) ?_
      rintro v1 hp1 ⟨MT_1, T_1⟩
      have X_1 : Mod [] h0 hp1 := Mod.step (A := []) (L := []) (Mod.refl [] h0) (Sep.nil [] h0.size h0) MT_1
      have S_1 : Sep [] h0.size hp1 [ownO (kF .f32) 40 v1 x1] := Sep.step (A := []) (L := []) (Sep.nil [] h0.size h0) (Mod.size (Mod.refl [] h0)) MT_1 T_1
      refine RL.opD (by decide) (opv_move rfl rfl) ?_
      refine RL.op _ (by decide) (opv_call (cap := []) (laws_toFloat32S_ok _ _ _ (SL.up (SL.mod g1 X_1 (Nat.le_refl _) nob) (Nat.le_trans (Nat.le_refl _) (Mod.size X_1))) _ hx2) rfl rfl ⟨rfl, trivial⟩ Try.func30 rfl rfl) ?_
      rintro v2 hp2 ⟨MT_2, T_2⟩
      have X_2 : Mod [] h0 hp2 := Mod.step (A := []) (L := [ownO (kF .f32) 40 v1 x1]) X_1 S_1 MT_2
      have S_2 : Sep [] h0.size hp2 [ownO (kF .f32) 40 v2 x2, ownO (kF .f32) 40 v1 x1] := Sep.step (A := []) (L := [ownO (kF .f32) 40 v1 x1]) S_1 (Mod.size X_1) MT_2 T_2
      refine RL.op _ (by decide) (opv_call (cap := []) (spec_TimesWindow_ok _ _ _ (ownO.read (Sep.at (o := ownO (kF .f32) 40 v1 x1) S_2 1 rfl)) _ _ (ownO.read (Sep.at (o := ownO (kF .f32) 40 v2 x2) S_2 0 rfl)) _ hx3) rfl rfl ⟨rfl, rfl, trivial⟩ Try.func39 rfl rfl) ?_
      rintro _ hp3 ⟨v3, rfl, MT_3, T_3⟩
      have X_3 : Mod [] h0 hp3 := Mod.step (A := []) (L := [ownO (kF .f32) 40 v2 x2, ownO (kF .f32) 40 v1 x1]) X_2 S_2 MT_3
      have S_3 : Sep [] h0.size hp3 [ownO (kF .f32) 40 v3 x3.1, ownO (kF .f32) 40 v2 x2, ownO (kF .f32) 40 v1 x1] := Sep.step (A := []) (L := [ownO (kF .f32) 40 v2 x2, ownO (kF .f32) 40 v1 x1]) S_2 (Mod.size X_2) MT_3 T_3
      refine RL.opD (by decide) (opv_move rfl rfl) ?_
      refine RL.opD (by decide) (opv_extract rfl rfl rfl) ?_
      refine RL.opD (by decide) (opv_extract rfl rfl rfl) ?_
      refine RL.opD (by decide) (opv_assign rfl rfl) ?_
      refine RL.opD (by decide) (opv_assign rfl rfl) ?_
      refine RL.nil ?_
      refine thnN ?_
      refine W.seq ?_
      obtain ⟨x4, hx4, hp⟩ := Option.bind_eq_some_iff.1 hp
      refine W.region ?_
      refine RL.opD (by decide) (opv_move rfl rfl) ?_
      refine RL.op _ (by decide) (opv_call (cap := []) (laws_toFloat32S_ok _ _ _ (SL.up (SL.mod g0 X_3 (Nat.le_refl _) nob) (Nat.le_trans (Nat.le_refl _) (Mod.size X_3))) _ hx4) rfl rfl ⟨rfl, trivial⟩ Try.func30 rfl rfl) ?_
      rintro v4 hp4 ⟨MT_4, T_4⟩
      have X_4 : Mod [] h0 hp4 := Mod.step (A := []) (L := [ownO (kF .f32) 40 v3 x3.1, ownO (kF .f32) 40 v2 x2, ownO (kF .f32) 40 v1 x1]) X_3 S_3 MT_4
      have S_4 : Sep [] h0.size hp4 [ownO (kF .f32) 40 v4 x4, ownO (kF .f32) 40 v3 x3.1, ownO (kF .f32) 40 v2 x2, ownO (kF .f32) 40 v1 x1] := Sep.step (A := []) (L := [ownO (kF .f32) 40 v3 x3.1, ownO (kF .f32) 40 v2 x2, ownO (kF .f32) 40 v1 x1]) S_3 (Mod.size X_3) MT_4 T_4
      refine RL.opD (by decide) (opv_assign rfl rfl) ?_
      refine RL.nil ?_
      refine thnN ?_
      refine W.seq ?_
      obtain ⟨x5, hx5, hp⟩ := Option.bind_eq_some_iff.1 hp
      refine W.region ?_
      refine RL.opD (by decide) (opv_move rfl rfl) ?_
      refine RL.op _ (by decide) (opv_call (cap := []) (laws_toFloat32S_ok _ _ _ (SL.up (SL.mod g1 X_4 (Nat.le_refl _) nob) (Nat.le_trans (Nat.le_refl _) (Mod.size X_4))) _ hx5) rfl rfl ⟨rfl, trivial⟩ Try.func30 rfl rfl) ?_
      rintro v5 hp5 ⟨MT_5, T_5⟩
      have X_5 : Mod [] h0 hp5 := Mod.step (A := []) (L := [ownO (kF .f32) 40 v4 x4, ownO (kF .f32) 40 v3 x3.1, ownO (kF .f32) 40 v2 x2, ownO (kF .f32) 40 v1 x1]) X_4 S_4 MT_5
      have S_5 : Sep [] h0.size hp5 [ownO (kF .f32) 40 v5 x5, ownO (kF .f32) 40 v4 x4, ownO (kF .f32) 40 v3 x3.1, ownO (kF .f32) 40 v2 x2, ownO (kF .f32) 40 v1 x1] := Sep.step (A := []) (L := [ownO (kF .f32) 40 v4 x4, ownO (kF .f32) 40 v3 x3.1, ownO (kF .f32) 40 v2 x2, ownO (kF .f32) 40 v1 x1]) S_4 (Mod.size X_4) MT_5 T_5
      refine RL.opD (by decide) (opv_assign rfl rfl) ?_
      refine RL.nil ?_
      refine thnN ?_
      refine W.seq ?_
      obtain ⟨x6, hx6, hp⟩ := Option.bind_eq_some_iff.1 hp
      refine W.region ?_
      refine RL.opD (by decide) (opv_move rfl rfl) ?_
      refine RL.opD (by decide) (opv_move rfl rfl) ?_
      refine RL.op _ (by decide) (opv_call (cap := []) (impl_TimesWindow_ok _ _ _ (ownO.read (Sep.at (o := ownO (kF .f32) 40 v4 x4) S_5 1 rfl)) _ _ (ownO.read (Sep.at (o := ownO (kF .f32) 40 v5 x5) S_5 0 rfl)) _ hx6) rfl rfl ⟨rfl, rfl, trivial⟩ Try.func40 rfl rfl) ?_
      rintro _ hp6 ⟨v6, rfl, MT_6, T_6⟩
      have X_6 : Mod [] h0 hp6 := Mod.step (A := []) (L := [ownO (kF .f32) 40 v5 x5, ownO (kF .f32) 40 v4 x4, ownO (kF .f32) 40 v3 x3.1, ownO (kF .f32) 40 v2 x2, ownO (kF .f32) 40 v1 x1]) X_5 S_5 MT_6
      have S_6 : Sep [] h0.size hp6 [ownO (kF .f32) 40 v6 x6.1, ownO (kF .f32) 40 v5 x5, ownO (kF .f32) 40 v4 x4, ownO (kF .f32) 40 v3 x3.1, ownO (kF .f32) 40 v2 x2, ownO (kF .f32) 40 v1 x1] := Sep.step (A := []) (L := [ownO (kF .f32) 40 v5 x5, ownO (kF .f32) 40 v4 x4, ownO (kF .f32) 40 v3 x3.1, ownO (kF .f32) 40 v2 x2, ownO (kF .f32) 40 v1 x1]) S_5 (Mod.size X_5) MT_6 T_6
      refine RL.opD (by decide) (opv_move rfl rfl) ?_
      refine RL.opD (by decide) (opv_extract rfl rfl rfl) ?_
      refine RL.opD (by decide) (opv_extract rfl rfl rfl) ?_
      refine RL.opD (by decide) (opv_assign rfl rfl) ?_
      refine RL.opD (by decide) (opv_assign rfl rfl) ?_
      refine RL.nil ?_
      refine thnN ?_
      refine W.seq ?_
      refine W.seq ?_
      obtain ⟨x7, hy1, hp⟩ := Option.bind_eq_some_iff.1 hp
      refine W.cut (fun φ' h' => Fr.sub [(0, u0), (1, u1), (4, (.bool false)), (18, (.bool (decide ((a0.length : Int) > 1048576)))), (21, (.bool (decide ((a1.length : Int) > 1048576)))), (5, v3), (6, (.bool x3.2)), (7, v4), (8, v5), (9, v6), (10, (.bool x6.2)), (48, (.bool x7))] φ' ∧ hp6 = h') ?_ ?_
      · obtain ⟨x8, hx8, hy1⟩ := Option.bind_eq_some_iff.1 hy1
        by_cases c3 : (!x8) = true
        · rw [if_pos c3] at hy1
          refine W.region ?_
          refine RL.opD (by decide) (opv_move rfl rfl) ?_
          refine RL.opD (by decide) (opv_move rfl rfl) ?_
          refine RL.op _ (by decide) (opv_call (cap := []) (laws_eqFloat32S_ok _ _ _ (ownO.read (Sep.at (o := ownO (kF .f32) 40 v6 x6.1) S_6 0 rfl)) _ _ (ownO.read (Sep.at (o := ownO (kF .f32) 40 v3 x3.1) S_6 3 rfl)) _ hx8) rfl rfl ⟨rfl, rfl, trivial⟩ Try.func26 rfl rfl) ?_
          rintro _ _ ⟨rfl, rfl⟩
          refine RL.opD (by decide) (opv_not rfl rfl) ?_
          refine RL.opD (by decide) (opv_move rfl rfl) ?_
          refine RL.no rfl rfl (Eq.trans c3 (by decide)) (by decide) ?_
          refine RL.no rfl rfl (Eq.trans c3 (by decide)) (by decide) ?_
          refine RL.no rfl rfl (Eq.trans c3 (by decide)) (by decide) ?_
          refine RL.opD (by decide) (opv_pick rfl rfl (fun _ => rfl) (fun e => absurd (Eq.trans (Eq.symm e) c3) (by decide)) rfl) ?_
          refine RL.nil ?_
          have ey1 := Option.some.inj hy1
          subst ey1
          refine onlyN ?_
          exact ⟨⟨rfl, rfl, rfl, rfl, rfl, rfl, rfl, rfl, rfl, rfl, rfl, rfl, trivial⟩, rfl⟩
        · rw [if_neg c3] at hy1
          have c3 := eq_false_of_ne_true c3
          refine W.region ?_
          refine RL.opD (by decide) (opv_move rfl rfl) ?_
          refine RL.opD (by decide) (opv_move rfl rfl) ?_
          refine RL.op _ (by decide) (opv_call (cap := []) (laws_eqFloat32S_ok _ _ _ (ownO.read (Sep.at (o := ownO (kF .f32) 40 v6 x6.1) S_6 0 rfl)) _ _ (ownO.read (Sep.at (o := ownO (kF .f32) 40 v3 x3.1) S_6 3 rfl)) _ hx8) rfl rfl ⟨rfl, rfl, trivial⟩ Try.func26 rfl rfl) ?_
          rintro _ _ ⟨rfl, rfl⟩
          refine RL.opD (by decide) (opv_not rfl rfl) ?_
          refine RL.opD (by decide) (opv_move rfl rfl) ?_
          refine RL.yes _ rfl rfl c3 (by decide) (opv_move rfl rfl) ?_
          rintro _ _ ⟨rfl, rfl⟩
          refine RL.yes _ rfl rfl c3 (by decide) (opv_move rfl rfl) ?_
          rintro _ _ ⟨rfl, rfl⟩
          refine RL.yes _ rfl rfl c3 (by decide) (opv_bcmp rfl rfl Try.underlying4 rfl rfl) ?_
          rintro _ _ ⟨rfl, rfl⟩
          refine RL.opD (by decide) (opv_pick rfl rfl (fun e => absurd (Eq.trans (Eq.symm e) c3) (by decide)) (fun _ => rfl) rfl) ?_
          refine RL.nil ?_
          have ey1 := Option.some.inj hy1
          subst ey1
          refine onlyN ?_
          exact ⟨⟨rfl, rfl, rfl, rfl, rfl, rfl, rfl, rfl, rfl, rfl, rfl, rfl, trivial⟩, rfl⟩
      rintro φ' _ ⟨hs1, rfl⟩
      refine thnN ?_
      refine W.sub hs1 ?_
      by_cases c4 : x7 = true
      · rw [if_pos c4] at hp
        refine W.condT rfl c4 ?_
        refine W.seq ?_
        refine W.region ?_
        refine RL.opD (by decide) (opv_assign rfl rfl) ?_
        refine RL.nil ?_
        refine thnN ?_
        refine W.ret ?_
        refine thnR ?_
        have er := Option.some.inj hp
        subst er
        exact Rt.one rfl rfl ⟨rfl, X_6, (Sep.nil _ _ _)⟩
      · rw [if_neg c4] at hp
        have c4 := eq_false_of_ne_true c4
        refine W.condF rfl c4 ?_
        refine W.skip ?_
        refine thnN ?_
        refine W.seq ?_
        refine W.seq ?_
        obtain ⟨x9, hx9, hp⟩ := Option.bind_eq_some_iff.1 hp
        obtain ⟨x10, hx10, hp⟩ := Option.bind_eq_some_iff.1 hp
        refine W.region ?_
        refine RL.opD (by decide) (opv_move rfl rfl) ?_
        refine RL.opD (by decide) (opv_move rfl rfl) ?_
        refine RL.op _ (by decide) (opv_call (cap := []) (laws_toFloat32S_ok _ _ _ (SL.up (SL.mod g0 X_6 (Nat.le_refl _) nob) (Nat.le_trans (Nat.le_refl _) (Mod.size X_6))) _ hx9) rfl rfl ⟨rfl, trivial⟩ Try.func30 rfl rfl) ?_
        rintro v7 hp7 ⟨MT_7, T_7⟩
        have X_7 : Mod [] h0 hp7 := Mod.step (A := []) (L := [ownO (kF .f32) 40 v6 x6.1, ownO (kF .f32) 40 v5 x5, ownO (kF .f32) 40 v4 x4, ownO (kF .f32) 40 v3 x3.1, ownO (kF .f32) 40 v2 x2, ownO (kF .f32) 40 v1 x1]) X_6 S_6 MT_7
        have S_7 : Sep [] h0.size hp7 [ownO (kF .f32) 40 v7 x9, ownO (kF .f32) 40 v6 x6.1, ownO (kF .f32) 40 v5 x5, ownO (kF .f32) 40 v4 x4, ownO (kF .f32) 40 v3 x3.1, ownO (kF .f32) 40 v2 x2, ownO (kF .f32) 40 v1 x1] := Sep.step (A := []) (L := [ownO (kF .f32) 40 v6 x6.1, ownO (kF .f32) 40 v5 x5, ownO (kF .f32) 40 v4 x4, ownO (kF .f32) 40 v3 x3.1, ownO (kF .f32) 40 v2 x2, ownO (kF .f32) 40 v1 x1]) S_6 (Mod.size X_6) MT_7 T_7
        refine RL.op _ (by decide) (opv_call (cap := []) (laws_eqFloat32S_ok _ _ _ (ownO.read (Sep.at (o := ownO (kF .f32) 40 v4 x4) S_7 3 rfl)) _ _ (ownO.read (Sep.at (o := ownO (kF .f32) 40 v7 x9) S_7 0 rfl)) _ hx10) rfl rfl ⟨rfl, rfl, trivial⟩ Try.func26 rfl rfl) ?_
        rintro _ _ ⟨rfl, rfl⟩
        refine RL.opD (by decide) (opv_not rfl rfl) ?_
        refine RL.nil ?_
        refine thnN ?_
        by_cases c5 : (!x10) = true
        · rw [if_pos c5] at hp
          refine W.condT rfl c5 ?_
          refine W.seq ?_
          refine W.region ?_
          refine RL.opD (by decide) (opv_assign rfl rfl) ?_
          refine RL.nil ?_
          refine thnN ?_
          refine W.ret ?_
          refine thnR ?_
          have er := Option.some.inj hp
          subst er
          exact Rt.one rfl rfl ⟨rfl, X_7, (Sep.nil _ _ _)⟩
        · rw [if_neg c5] at hp
          have c5 := eq_false_of_ne_true c5
          refine W.condF rfl c5 ?_
          refine W.skip ?_
          refine thnN ?_
          refine W.seq ?_
          refine W.seq ?_
          obtain ⟨x11, hx11, hp⟩ := Option.bind_eq_some_iff.1 hp
          obtain ⟨x12, hx12, hp⟩ := Option.bind_eq_some_iff.1 hp
          refine W.region ?_
          refine RL.opD (by decide) (opv_move rfl rfl) ?_
          refine RL.opD (by decide) (opv_move rfl rfl) ?_
          refine RL.op _ (by decide) (opv_call (cap := []) (laws_toFloat32S_ok _ _ _ (SL.up (SL.mod g1 X_7 (Nat.le_refl _) nob) (Nat.le_trans (Nat.le_refl _) (Mod.size X_7))) _ hx11) rfl rfl ⟨rfl, trivial⟩ Try.func30 rfl rfl) ?_
          rintro v8 hp8 ⟨MT_8, T_8⟩
          have X_8 : Mod [] h0 hp8 := Mod.step (A := []) (L := [ownO (kF .f32) 40 v7 x9, ownO (kF .f32) 40 v6 x6.1, ownO (kF .f32) 40 v5 x5, ownO (kF .f32) 40 v4 x4, ownO (kF .f32) 40 v3 x3.1, ownO (kF .f32) 40 v2 x2, ownO (kF .f32) 40 v1 x1]) X_7 S_7 MT_8
          have S_8 : Sep [] h0.size hp8 [ownO (kF .f32) 40 v8 x11, ownO (kF .f32) 40 v7 x9, ownO (kF .f32) 40 v6 x6.1, ownO (kF .f32) 40 v5 x5, ownO (kF .f32) 40 v4 x4, ownO (kF .f32) 40 v3 x3.1, ownO (kF .f32) 40 v2 x2, ownO (kF .f32) 40 v1 x1] := Sep.step (A := []) (L := [ownO (kF .f32) 40 v7 x9, ownO (kF .f32) 40 v6 x6.1, ownO (kF .f32) 40 v5 x5, ownO (kF .f32) 40 v4 x4, ownO (kF .f32) 40 v3 x3.1, ownO (kF .f32) 40 v2 x2, ownO (kF .f32) 40 v1 x1]) S_7 (Mod.size X_7) MT_8 T_8
          refine RL.op _ (by decide) (opv_call (cap := []) (laws_eqFloat32S_ok _ _ _ (ownO.read (Sep.at (o := ownO (kF .f32) 40 v5 x5) S_8 3 rfl)) _ _ (ownO.read (Sep.at (o := ownO (kF .f32) 40 v8 x11) S_8 0 rfl)) _ hx12) rfl rfl ⟨rfl, rfl, trivial⟩ Try.func26 rfl rfl) ?_
          rintro _ _ ⟨rfl, rfl⟩
          refine RL.opD (by decide) (opv_not rfl rfl) ?_
          refine RL.nil ?_
          refine thnN ?_
          by_cases c6 : (!x12) = true
          · rw [if_pos c6] at hp
            refine W.condT rfl c6 ?_
            refine W.seq ?_
            refine W.region ?_
            refine RL.opD (by decide) (opv_assign rfl rfl) ?_
            refine RL.nil ?_
            refine thnN ?_
            refine W.ret ?_
            refine thnR ?_
            have er := Option.some.inj hp
            subst er
            exact Rt.one rfl rfl ⟨rfl, X_8, (Sep.nil _ _ _)⟩
          · rw [if_neg c6] at hp
            have c6 := eq_false_of_ne_true c6
            refine W.condF rfl c6 ?_
            refine W.skip ?_
            refine thnN ?_
            refine W.seq ?_
            refine W.region ?_
            refine RL.opD (by decide) (opv_assign rfl rfl) ?_
            refine RL.nil ?_
            refine thnN ?_
            refine W.seq ?_
            obtain ⟨x13, hx13, hp⟩ := Option.bind_eq_some_iff.1 hp
            refine W.region ?_
            refine RL.opD (by decide) (opv_move rfl rfl) ?_
            refine RL.opD (by decide) (opv_move rfl rfl) ?_
            have S_10 : Sep [] h0.size hp8 [ownO (kF .f32) 40 v4 x4] := Sep.sel S_8 [4] (by decide)
            have S_9 : Sep [v4.ownBlock] hp8.size hp8 [ownO (kF .f32) 40 v4 x4] := Sep.own S_10 _
            refine RL.op _ (by decide) (opv_call (cap := []) (laws_markFloat32S_ok _ h0.size (Nat.le_trans (Nat.le_refl _) (Mod.size X_8)) _ _ _ S_9 (Sep.ge (L := [ownO (kF .f32) 40 v4 x4]) S_10 (Nat.le_refl _) nob) _ hx13) rfl rfl ⟨rfl, rfl, trivial⟩ Try.func27 rfl rfl) ?_
            rintro _ hp9 ⟨rfl, MT_9, T_9⟩
            have S_11 : Sep [] h0.size hp8 ([ownO (kF .f32) 40 v4 x4] ++ [ownO (kF .f32) 40 v8 x11, ownO (kF .f32) 40 v7 x9, ownO (kF .f32) 40 v6 x6.1, ownO (kF .f32) 40 v5 x5, ownO (kF .f32) 40 v3 x3.1, ownO (kF .f32) 40 v2 x2, ownO (kF .f32) 40 v1 x1]) := Sep.sel S_8 [4, 0, 1, 2, 3, 5, 6, 7] (by decide)
            have X_9 : Mod [] h0 hp9 := Mod.step (A := [ownO (kF .f32) 40 v4 x4]) (L := [ownO (kF .f32) 40 v8 x11, ownO (kF .f32) 40 v7 x9, ownO (kF .f32) 40 v6 x6.1, ownO (kF .f32) 40 v5 x5, ownO (kF .f32) 40 v3 x3.1, ownO (kF .f32) 40 v2 x2, ownO (kF .f32) 40 v1 x1]) X_8 S_11 MT_9
            have S_12 : Sep [] h0.size hp9 [ownO (kF .f32) 40 v4 x13.2, ownO (kF .f32) 40 v8 x11, ownO (kF .f32) 40 v7 x9, ownO (kF .f32) 40 v6 x6.1, ownO (kF .f32) 40 v5 x5, ownO (kF .f32) 40 v3 x3.1, ownO (kF .f32) 40 v2 x2, ownO (kF .f32) 40 v1 x1] := Sep.step (A := [ownO (kF .f32) 40 v4 x4]) (L := [ownO (kF .f32) 40 v8 x11, ownO (kF .f32) 40 v7 x9, ownO (kF .f32) 40 v6 x6.1, ownO (kF .f32) 40 v5 x5, ownO (kF .f32) 40 v3 x3.1, ownO (kF .f32) 40 v2 x2, ownO (kF .f32) 40 v1 x1]) S_11 (Mod.size X_8) MT_9 T_9
            refine RL.opD (by decide) (opv_assign rfl rfl) ?_
            refine RL.nil ?_
            refine thnN ?_
            refine W.seq ?_
            obtain ⟨x14, hx14, hp⟩ := Option.bind_eq_some_iff.1 hp
            refine W.region ?_
            refine RL.opD (by decide) (opv_move rfl rfl) ?_
            refine RL.opD (by decide) (opv_move rfl rfl) ?_
            have S_14 : Sep [] h0.size hp9 [ownO (kF .f32) 40 v5 x5] := Sep.sel S_12 [4] (by decide)
            have S_13 : Sep [v5.ownBlock] hp9.size hp9 [ownO (kF .f32) 40 v5 x5] := Sep.own S_14 _
            refine RL.op _ (by decide) (opv_call (cap := []) (laws_markFloat32S_ok _ h0.size (Nat.le_trans (Nat.le_refl _) (Mod.size X_9)) _ _ _ S_13 (Sep.ge (L := [ownO (kF .f32) 40 v5 x5]) S_14 (Nat.le_refl _) nob) _ hx14) rfl rfl ⟨rfl, rfl, trivial⟩ Try.func27 rfl rfl) ?_
            rintro _ hp10 ⟨rfl, MT_10, T_10⟩
            have S_15 : Sep [] h0.size hp9 ([ownO (kF .f32) 40 v5 x5] ++ [ownO (kF .f32) 40 v4 x13.2, ownO (kF .f32) 40 v8 x11, ownO (kF .f32) 40 v7 x9, ownO (kF .f32) 40 v6 x6.1, ownO (kF .f32) 40 v3 x3.1, ownO (kF .f32) 40 v2 x2, ownO (kF .f32) 40 v1 x1]) := Sep.sel S_12 [4, 0, 1, 2, 3, 5, 6, 7] (by decide)
            have X_10 : Mod [] h0 hp10 := Mod.step (A := [ownO (kF .f32) 40 v5 x5]) (L := [ownO (kF .f32) 40 v4 x13.2, ownO (kF .f32) 40 v8 x11, ownO (kF .f32) 40 v7 x9, ownO (kF .f32) 40 v6 x6.1, ownO (kF .f32) 40 v3 x3.1, ownO (kF .f32) 40 v2 x2, ownO (kF .f32) 40 v1 x1]) X_9 S_15 MT_10
            have S_16 : Sep [] h0.size hp10 [ownO (kF .f32) 40 v5 x14.2, ownO (kF .f32) 40 v4 x13.2, ownO (kF .f32) 40 v8 x11, ownO (kF .f32) 40 v7 x9, ownO (kF .f32) 40 v6 x6.1, ownO (kF .f32) 40 v3 x3.1, ownO (kF .f32) 40 v2 x2, ownO (kF .f32) 40 v1 x1] := Sep.step (A := [ownO (kF .f32) 40 v5 x5]) (L := [ownO (kF .f32) 40 v4 x13.2, ownO (kF .f32) 40 v8 x11, ownO (kF .f32) 40 v7 x9, ownO (kF .f32) 40 v6 x6.1, ownO (kF .f32) 40 v3 x3.1, ownO (kF .f32) 40 v2 x2, ownO (kF .f32) 40 v1 x1]) S_15 (Mod.size X_9) MT_10 T_10
            refine RL.opD (by decide) (opv_assign rfl rfl) ?_
            refine RL.nil ?_
            refine thnN ?_
            refine W.seq ?_
            refine W.seq ?_
            obtain ⟨x15, hy2, hp⟩ := Option.bind_eq_some_iff.1 hp
            refine W.cut (fun φ' h' => Fr.sub [(0, u0), (1, u1), (4, (.bool false)), (18, (.bool (decide ((a0.length : Int) > 1048576)))), (21, (.bool (decide ((a1.length : Int) > 1048576)))), (5, v3), (6, (.bool x3.2)), (7, v4), (8, v5), (9, v6), (10, (.bool x6.2)), (48, (.bool x7)), (53, (.bool (!x10))), (58, (.bool (!x12))), (11, (.int .i64 x14.1)), (77, (.bool x15))] φ' ∧ hp10 = h') ?_ ?_
            · by_cases c7 : (decide (x14.1 < 0)) = true
              · rw [if_pos c7] at hy2
                refine W.region ?_
                refine RL.opD (by decide) (opv_move rfl rfl) ?_
                refine RL.opD (by decide) (opv_icmp rfl rfl rfl rfl) ?_
                refine RL.opD (by decide) (opv_move rfl rfl) ?_
                refine RL.no rfl rfl (Eq.trans c7 (by decide)) (by decide) ?_
                refine RL.no rfl rfl (Eq.trans c7 (by decide)) (by decide) ?_
                refine RL.no rfl rfl (Eq.trans c7 (by decide)) (by decide) ?_
                refine RL.no rfl rfl (Eq.trans c7 (by decide)) (by decide) ?_
                refine RL.opD (by decide) (opv_pick rfl rfl (fun _ => rfl) (fun e => absurd (Eq.trans (Eq.symm e) c7) (by decide)) rfl) ?_
                refine RL.opD (by decide) (opv_move rfl rfl) ?_
                refine RL.no rfl rfl (Eq.trans rfl (by decide)) (by decide) ?_
                refine RL.no rfl rfl (Eq.trans rfl (by decide)) (by decide) ?_
                refine RL.no rfl rfl (Eq.trans rfl (by decide)) (by decide) ?_
                refine RL.opD (by decide) (opv_pick rfl rfl (fun _ => rfl) (fun e => absurd (Eq.trans (Eq.symm e) rfl) (by decide)) rfl) ?_
                refine RL.nil ?_
                have ey2 := Option.some.inj hy2
                subst ey2
                refine onlyN ?_
                exact ⟨⟨rfl, rfl, rfl, rfl, rfl, rfl, rfl, rfl, rfl, rfl, rfl, rfl, rfl, rfl, rfl, rfl, trivial⟩, rfl⟩
              · rw [if_neg c7] at hy2
                have c7 := eq_false_of_ne_true c7
                obtain ⟨x16, hx16, hy2⟩ := Option.bind_eq_some_iff.1 hy2
                by_cases c8 : (!x16) = true
                · rw [if_pos c8] at hy2
                  refine W.region ?_
                  refine RL.opD (by decide) (opv_move rfl rfl) ?_
                  refine RL.opD (by decide) (opv_icmp rfl rfl rfl rfl) ?_
                  refine RL.opD (by decide) (opv_move rfl rfl) ?_
                  refine RL.yes _ rfl rfl c7 (by decide) (opv_move rfl rfl) ?_
                  rintro _ _ ⟨rfl, rfl⟩
                  refine RL.yes _ rfl rfl c7 (by decide) (opv_move rfl rfl) ?_
                  rintro _ _ ⟨rfl, rfl⟩
                  refine RL.yes _ rfl rfl c7 (by decide) (opv_call (cap := []) (laws_eqFloat32S_ok _ _ _ (ownO.read (Sep.at (o := ownO (kF .f32) 40 v6 x6.1) S_16 4 rfl)) _ _ (ownO.read (Sep.at (o := ownO (kF .f32) 40 v3 x3.1) S_16 5 rfl)) _ hx16) rfl rfl ⟨rfl, rfl, trivial⟩ Try.func26 rfl rfl) ?_
                  rintro _ _ ⟨rfl, rfl⟩
                  refine RL.yes _ rfl rfl c7 (by decide) (opv_not rfl rfl) ?_
                  rintro _ _ ⟨rfl, rfl⟩
                  refine RL.opD (by decide) (opv_pick rfl rfl (fun e => absurd (Eq.trans (Eq.symm e) c7) (by decide)) (fun _ => rfl) rfl) ?_
                  refine RL.opD (by decide) (opv_move rfl rfl) ?_
                  refine RL.no rfl rfl (Eq.trans c8 (by decide)) (by decide) ?_
                  refine RL.no rfl rfl (Eq.trans c8 (by decide)) (by decide) ?_
                  refine RL.no rfl rfl (Eq.trans c8 (by decide)) (by decide) ?_
                  refine RL.opD (by decide) (opv_pick rfl rfl (fun _ => rfl) (fun e => absurd (Eq.trans (Eq.symm e) c8) (by decide)) rfl) ?_
                  refine RL.nil ?_
                  have ey2 := Option.some.inj hy2
                  subst ey2
                  refine onlyN ?_
                  exact ⟨⟨rfl, rfl, rfl, rfl, rfl, rfl, rfl, rfl, rfl, rfl, rfl, rfl, rfl, rfl, rfl, rfl, trivial⟩, rfl⟩
                · rw [if_neg c8] at hy2
                  have c8 := eq_false_of_ne_true c8
                  refine W.region ?_
                  refine RL.opD (by decide) (opv_move rfl rfl) ?_
                  refine RL.opD (by decide) (opv_icmp rfl rfl rfl rfl) ?_
                  refine RL.opD (by decide) (opv_move rfl rfl) ?_
                  refine RL.yes _ rfl rfl c7 (by decide) (opv_move rfl rfl) ?_
                  rintro _ _ ⟨rfl, rfl⟩
                  refine RL.yes _ rfl rfl c7 (by decide) (opv_move rfl rfl) ?_
                  rintro _ _ ⟨rfl, rfl⟩
                  refine RL.yes _ rfl rfl c7 (by decide) (opv_call (cap := []) (laws_eqFloat32S_ok _ _ _ (ownO.read (Sep.at (o := ownO (kF .f32) 40 v6 x6.1) S_16 4 rfl)) _ _ (ownO.read (Sep.at (o := ownO (kF .f32) 40 v3 x3.1) S_16 5 rfl)) _ hx16) rfl rfl ⟨rfl, rfl, trivial⟩ Try.func26 rfl rfl) ?_
                  rintro _ _ ⟨rfl, rfl⟩
                  refine RL.yes _ rfl rfl c7 (by decide) (opv_not rfl rfl) ?_
                  rintro _ _ ⟨rfl, rfl⟩
                  refine RL.opD (by decide) (opv_pick rfl rfl (fun e => absurd (Eq.trans (Eq.symm e) c7) (by decide)) (fun _ => rfl) rfl) ?_
                  refine RL.opD (by decide) (opv_move rfl rfl) ?_
                  refine RL.yes _ rfl rfl c8 (by decide) (opv_move rfl rfl) ?_
                  rintro _ _ ⟨rfl, rfl⟩
                  refine RL.yes _ rfl rfl c8 (by decide) (opv_move rfl rfl) ?_
                  rintro _ _ ⟨rfl, rfl⟩
                  refine RL.yes _ rfl rfl c8 (by decide) (opv_bcmp rfl rfl Try.underlying4 rfl rfl) ?_
                  rintro _ _ ⟨rfl, rfl⟩
                  refine RL.opD (by decide) (opv_pick rfl rfl (fun e => absurd (Eq.trans (Eq.symm e) c8) (by decide)) (fun _ => rfl) rfl) ?_
                  refine RL.nil ?_
                  have ey2 := Option.some.inj hy2
                  subst ey2
                  refine onlyN ?_
                  exact ⟨⟨rfl, rfl, rfl, rfl, rfl, rfl, rfl, rfl, rfl, rfl, rfl, rfl, rfl, rfl, rfl, rfl, trivial⟩, rfl⟩
            rintro φ' _ ⟨hs2, rfl⟩
            refine thnN ?_
            refine W.sub hs2 ?_
            by_cases c9 : x15 = true
            · rw [if_pos c9] at hp
              refine W.condT rfl c9 ?_
              refine W.seq ?_
              refine W.region ?_
              refine RL.opD (by decide) (opv_assign rfl rfl) ?_
              refine RL.nil ?_
              refine thnN ?_
              refine W.ret ?_
              refine thnR ?_
              have er := Option.some.inj hp
              subst er
              exact Rt.one rfl rfl ⟨rfl, X_10, (Sep.nil _ _ _)⟩
            · rw [if_neg c9] at hp
              have c9 := eq_false_of_ne_true c9
              refine W.condF rfl c9 ?_
              refine W.skip ?_
              refine thnN ?_
              refine W.seq ?_
              refine W.region ?_
              refine RL.opD (by decide) (opv_assign rfl rfl) ?_
              refine RL.nil ?_
              refine thnN ?_
              refine W.seq ?_
              obtain ⟨x17, hx17, hp⟩ := Option.bind_eq_some_iff.1 hp
              refine W.region ?_
              refine RL.opD (by decide) (opv_move rfl rfl) ?_
              refine RL.opD (by decide) (opv_move rfl rfl) ?_
              have S_18 : Sep [] h0.size hp10 [ownO (kF .f32) 40 v6 x6.1] := Sep.sel S_16 [4] (by decide)
              have S_17 : Sep [v6.ownBlock] hp10.size hp10 [ownO (kF .f32) 40 v6 x6.1] := Sep.own S_18 _
              refine RL.op _ (by decide) (opv_call (cap := []) (laws_markFloat32S_ok _ h0.size (Nat.le_trans (Nat.le_refl _) (Mod.size X_10)) _ _ _ S_17 (Sep.ge (L := [ownO (kF .f32) 40 v6 x6.1]) S_18 (Nat.le_refl _) nob) _ hx17) rfl rfl ⟨rfl, rfl, trivial⟩ Try.func27 rfl rfl) ?_
              rintro _ hp11 ⟨rfl, MT_11, T_11⟩
              have S_19 : Sep [] h0.size hp10 ([ownO (kF .f32) 40 v6 x6.1] ++ [ownO (kF .f32) 40 v5 x14.2, ownO (kF .f32) 40 v4 x13.2, ownO (kF .f32) 40 v8 x11, ownO (kF .f32) 40 v7 x9, ownO (kF .f32) 40 v3 x3.1, ownO (kF .f32) 40 v2 x2, ownO (kF .f32) 40 v1 x1]) := Sep.sel S_16 [4, 0, 1, 2, 3, 5, 6, 7] (by decide)
              have X_11 : Mod [] h0 hp11 := Mod.step (A := [ownO (kF .f32) 40 v6 x6.1]) (L := [ownO (kF .f32) 40 v5 x14.2, ownO (kF .f32) 40 v4 x13.2, ownO (kF .f32) 40 v8 x11, ownO (kF .f32) 40 v7 x9, ownO (kF .f32) 40 v3 x3.1, ownO (kF .f32) 40 v2 x2, ownO (kF .f32) 40 v1 x1]) X_10 S_19 MT_11
              have S_20 : Sep [] h0.size hp11 [ownO (kF .f32) 40 v6 x17.2, ownO (kF .f32) 40 v5 x14.2, ownO (kF .f32) 40 v4 x13.2, ownO (kF .f32) 40 v8 x11, ownO (kF .f32) 40 v7 x9, ownO (kF .f32) 40 v3 x3.1, ownO (kF .f32) 40 v2 x2, ownO (kF .f32) 40 v1 x1] := Sep.step (A := [ownO (kF .f32) 40 v6 x6.1]) (L := [ownO (kF .f32) 40 v5 x14.2, ownO (kF .f32) 40 v4 x13.2, ownO (kF .f32) 40 v8 x11, ownO (kF .f32) 40 v7 x9, ownO (kF .f32) 40 v3 x3.1, ownO (kF .f32) 40 v2 x2, ownO (kF .f32) 40 v1 x1]) S_19 (Mod.size X_10) MT_11 T_11
              refine RL.opD (by decide) (opv_assign rfl rfl) ?_
              refine RL.nil ?_
              refine thnN ?_
              refine W.seq ?_
              refine W.region ?_
              refine RL.opD (by decide) (opv_assign rfl rfl) ?_
              refine RL.nil ?_
              refine thnN ?_
              refine W.seq ?_
              obtain ⟨x18, hx18, hp⟩ := Option.bind_eq_some_iff.1 hp
              refine W.region ?_
              refine RL.opD (by decide) (opv_move rfl rfl) ?_
              refine RL.opD (by decide) (opv_move rfl rfl) ?_
              refine RL.op _ (by decide) (opv_call (cap := []) (laws_heldFloat32S_ok _ _ _ (ownO.read (Sep.at (o := ownO (kF .f32) 40 v6 x17.2) S_20 0 rfl)) _ _ hx18) rfl rfl ⟨rfl, rfl, trivial⟩ Try.func28 rfl rfl) ?_
              rintro _ _ ⟨rfl, rfl⟩
              refine RL.opD (by decide) (opv_assign rfl rfl) ?_
              refine RL.nil ?_
              refine thnN ?_
              refine W.seq ?_
              refine W.seq ?_
              refine W.region ?_
              refine RL.opD (by decide) (opv_move rfl rfl) ?_
              refine RL.opD (by decide) (opv_icmp rfl rfl rfl rfl) ?_
              refine RL.nil ?_
              refine thnN ?_
              by_cases c10 : (decide (x18 < 0)) = true
              · rw [if_pos c10] at hp
                refine W.condT rfl c10 ?_
                refine W.seq ?_
                refine W.region ?_
                refine RL.opD (by decide) (opv_assign rfl rfl) ?_
                refine RL.nil ?_
                refine thnN ?_
                refine W.ret ?_
                refine thnR ?_
                have er := Option.some.inj hp
                subst er
                exact Rt.one rfl rfl ⟨rfl, X_11, (Sep.nil _ _ _)⟩
              · rw [if_neg c10] at hp
                have c10 := eq_false_of_ne_true c10
                refine W.condF rfl c10 ?_
                refine W.skip ?_
                refine thnN ?_
                refine W.seq ?_
                refine W.seq ?_
                refine W.region ?_
                refine RL.opD (by decide) (opv_move rfl rfl) ?_
                refine RL.opD (by decide) (opv_move rfl rfl) ?_
                refine RL.opD (by decide) (opv_icmp rfl rfl rfl rfl) ?_
                refine RL.nil ?_
                refine thnN ?_
                by_cases c11 : (x18 != x17.1) = true
                · rw [if_pos c11] at hp
                  refine W.condT rfl c11 ?_
                  refine W.seq ?_
                  refine W.region ?_
                  refine RL.opD (by decide) (opv_assign rfl rfl) ?_
                  refine RL.nil ?_
                  refine thnN ?_
                  refine W.ret ?_
                  refine thnR ?_
                  have er := Option.some.inj hp
                  subst er
                  exact Rt.one rfl rfl ⟨rfl, X_11, (Sep.nil _ _ _)⟩
                · rw [if_neg c11] at hp
                  have c11 := eq_false_of_ne_true c11
                  refine W.condF rfl c11 ?_
                  refine W.skip ?_
                  refine thnN ?_
                  refine W.seq ?_
                  obtain ⟨x19, hx19, hp⟩ := Option.bind_eq_some_iff.1 hp
                  obtain ⟨x20, hx20, hp⟩ := Option.bind_eq_some_iff.1 hp
                  obtain ⟨x21, hx21, hp⟩ := Option.bind_eq_some_iff.1 hp
                  refine W.region ?_
                  refine RL.opD (by decide) (opv_move rfl rfl) ?_
                  refine RL.op _ (by decide) (opv_call (cap := []) (laws_toFloat32S_ok _ _ _ (SL.up (SL.mod g0 X_11 (Nat.le_refl _) nob) (Nat.le_trans (Nat.le_refl _) (Mod.size X_11))) _ hx19) rfl rfl ⟨rfl, trivial⟩ Try.func30 rfl rfl) ?_
                  rintro v9 hp12 ⟨MT_12, T_12⟩
                  have X_12 : Mod [] h0 hp12 := Mod.step (A := []) (L := [ownO (kF .f32) 40 v6 x17.2, ownO (kF .f32) 40 v5 x14.2, ownO (kF .f32) 40 v4 x13.2, ownO (kF .f32) 40 v8 x11, ownO (kF .f32) 40 v7 x9, ownO (kF .f32) 40 v3 x3.1, ownO (kF .f32) 40 v2 x2, ownO (kF .f32) 40 v1 x1]) X_11 S_20 MT_12
                  have S_21 : Sep [] h0.size hp12 [ownO (kF .f32) 40 v9 x19, ownO (kF .f32) 40 v6 x17.2, ownO (kF .f32) 40 v5 x14.2, ownO (kF .f32) 40 v4 x13.2, ownO (kF .f32) 40 v8 x11, ownO (kF .f32) 40 v7 x9, ownO (kF .f32) 40 v3 x3.1, ownO (kF .f32) 40 v2 x2, ownO (kF .f32) 40 v1 x1] := Sep.step (A := []) (L := [ownO (kF .f32) 40 v6 x17.2, ownO (kF .f32) 40 v5 x14.2, ownO (kF .f32) 40 v4 x13.2, ownO (kF .f32) 40 v8 x11, ownO (kF .f32) 40 v7 x9, ownO (kF .f32) 40 v3 x3.1, ownO (kF .f32) 40 v2 x2, ownO (kF .f32) 40 v1 x1]) S_20 (Mod.size X_11) MT_12 T_12
                  refine RL.opD (by decide) (opv_move rfl rfl) ?_
                  refine RL.op _ (by decide) (opv_call (cap := []) (laws_toFloat32S_ok _ _ _ (SL.up (SL.mod g1 X_12 (Nat.le_refl _) nob) (Nat.le_trans (Nat.le_refl _) (Mod.size X_12))) _ hx20) rfl rfl ⟨rfl, trivial⟩ Try.func30 rfl rfl) ?_
                  rintro v10 hp13 ⟨MT_13, T_13⟩
                  have X_13 : Mod [] h0 hp13 := Mod.step (A := []) (L := [ownO (kF .f32) 40 v9 x19, ownO (kF .f32) 40 v6 x17.2, ownO (kF .f32) 40 v5 x14.2, ownO (kF .f32) 40 v4 x13.2, ownO (kF .f32) 40 v8 x11, ownO (kF .f32) 40 v7 x9, ownO (kF .f32) 40 v3 x3.1, ownO (kF .f32) 40 v2 x2, ownO (kF .f32) 40 v1 x1]) X_12 S_21 MT_13
                  have S_22 : Sep [] h0.size hp13 [ownO (kF .f32) 40 v10 x20, ownO (kF .f32) 40 v9 x19, ownO (kF .f32) 40 v6 x17.2, ownO (kF .f32) 40 v5 x14.2, ownO (kF .f32) 40 v4 x13.2, ownO (kF .f32) 40 v8 x11, ownO (kF .f32) 40 v7 x9, ownO (kF .f32) 40 v3 x3.1, ownO (kF .f32) 40 v2 x2, ownO (kF .f32) 40 v1 x1] := Sep.step (A := []) (L := [ownO (kF .f32) 40 v9 x19, ownO (kF .f32) 40 v6 x17.2, ownO (kF .f32) 40 v5 x14.2, ownO (kF .f32) 40 v4 x13.2, ownO (kF .f32) 40 v8 x11, ownO (kF .f32) 40 v7 x9, ownO (kF .f32) 40 v3 x3.1, ownO (kF .f32) 40 v2 x2, ownO (kF .f32) 40 v1 x1]) S_21 (Mod.size X_12) MT_13 T_13
                  refine RL.op _ (by decide) (opv_call (cap := []) (impl_TimesWindow_ok _ _ _ (ownO.read (Sep.at (o := ownO (kF .f32) 40 v9 x19) S_22 1 rfl)) _ _ (ownO.read (Sep.at (o := ownO (kF .f32) 40 v10 x20) S_22 0 rfl)) _ hx21) rfl rfl ⟨rfl, rfl, trivial⟩ Try.func40 rfl rfl) ?_
                  rintro _ hp14 ⟨v11, rfl, MT_14, T_14⟩
                  have X_14 : Mod [] h0 hp14 := Mod.step (A := []) (L := [ownO (kF .f32) 40 v10 x20, ownO (kF .f32) 40 v9 x19, ownO (kF .f32) 40 v6 x17.2, ownO (kF .f32) 40 v5 x14.2, ownO (kF .f32) 40 v4 x13.2, ownO (kF .f32) 40 v8 x11, ownO (kF .f32) 40 v7 x9, ownO (kF .f32) 40 v3 x3.1, ownO (kF .f32) 40 v2 x2, ownO (kF .f32) 40 v1 x1]) X_13 S_22 MT_14
                  have S_23 : Sep [] h0.size hp14 [ownO (kF .f32) 40 v11 x21.1, ownO (kF .f32) 40 v10 x20, ownO (kF .f32) 40 v9 x19, ownO (kF .f32) 40 v6 x17.2, ownO (kF .f32) 40 v5 x14.2, ownO (kF .f32) 40 v4 x13.2, ownO (kF .f32) 40 v8 x11, ownO (kF .f32) 40 v7 x9, ownO (kF .f32) 40 v3 x3.1, ownO (kF .f32) 40 v2 x2, ownO (kF .f32) 40 v1 x1] := Sep.step (A := []) (L := [ownO (kF .f32) 40 v10 x20, ownO (kF .f32) 40 v9 x19, ownO (kF .f32) 40 v6 x17.2, ownO (kF .f32) 40 v5 x14.2, ownO (kF .f32) 40 v4 x13.2, ownO (kF .f32) 40 v8 x11, ownO (kF .f32) 40 v7 x9, ownO (kF .f32) 40 v3 x3.1, ownO (kF .f32) 40 v2 x2, ownO (kF .f32) 40 v1 x1]) S_22 (Mod.size X_13) MT_14 T_14
                  refine RL.opD (by decide) (opv_move rfl rfl) ?_
                  refine RL.opD (by decide) (opv_extract rfl rfl rfl) ?_
                  refine RL.opD (by decide) (opv_extract rfl rfl rfl) ?_
                  refine RL.opD (by decide) (opv_assign rfl rfl) ?_
                  refine RL.opD (by decide) (opv_assign rfl rfl) ?_
                  refine RL.nil ?_
                  refine thnN ?_
                  refine W.seq ?_
                  refine W.seq ?_
                  obtain ⟨x22, hy3, hp⟩ := Option.bind_eq_some_iff.1 hp
                  refine W.cut (fun φ' h' => Fr.sub [(0, u0), (1, u1), (4, (.bool false)), (18, (.bool (decide ((a0.length : Int) > 1048576)))), (21, (.bool (decide ((a1.length : Int) > 1048576)))), (5, v3), (6, (.bool x3.2)), (7, v4), (8, v5), (9, v6), (10, (.bool x6.2)), (48, (.bool x7)), (53, (.bool (!x10))), (58, (.bool (!x12))), (11, (.int .i64 x14.1)), (77, (.bool x15)), (12, (.int .i64 x17.1)), (13, (.int .i64 x18)), (85, (.bool (decide (x18 < 0)))), (88, (.bool (x18 != x17.1))), (14, v11), (15, (.bool x21.2)), (105, (.bool x22))] φ' ∧ hp14 = h') ?_ ?_
                  · obtain ⟨x23, hx23, hy3⟩ := Option.bind_eq_some_iff.1 hy3
                    by_cases c12 : (!x23) = true
                    · rw [if_pos c12] at hy3
                      refine W.region ?_
                      refine RL.opD (by decide) (opv_move rfl rfl) ?_
                      refine RL.opD (by decide) (opv_move rfl rfl) ?_
                      refine RL.op _ (by decide) (opv_call (cap := []) (laws_eqFloat32S_ok _ _ _ (ownO.read (Sep.at (o := ownO (kF .f32) 40 v11 x21.1) S_23 0 rfl)) _ _ (ownO.read (Sep.at (o := ownO (kF .f32) 40 v3 x3.1) S_23 8 rfl)) _ hx23) rfl rfl ⟨rfl, rfl, trivial⟩ Try.func26 rfl rfl) ?_
                      rintro _ _ ⟨rfl, rfl⟩
                      refine RL.opD (by decide) (opv_not rfl rfl) ?_
                      refine RL.opD (by decide) (opv_move rfl rfl) ?_
                      refine RL.no rfl rfl (Eq.trans c12 (by decide)) (by decide) ?_
                      refine RL.no rfl rfl (Eq.trans c12 (by decide)) (by decide) ?_
                      refine RL.no rfl rfl (Eq.trans c12 (by decide)) (by decide) ?_
                      refine RL.opD (by decide) (opv_pick rfl rfl (fun _ => rfl) (fun e => absurd (Eq.trans (Eq.symm e) c12) (by decide)) rfl) ?_
                      refine RL.nil ?_
                      have ey3 := Option.some.inj hy3
                      subst ey3
                      refine onlyN ?_
                      exact ⟨⟨rfl, rfl, rfl, rfl, rfl, rfl, rfl, rfl, rfl, rfl, rfl, rfl, rfl, rfl, rfl, rfl, rfl, rfl, rfl, rfl, rfl, rfl, rfl, trivial⟩, rfl⟩
                    · rw [if_neg c12] at hy3
                      have c12 := eq_false_of_ne_true c12
                      refine W.region ?_
                      refine RL.opD (by decide) (opv_move rfl rfl) ?_
                      refine RL.opD (by decide) (opv_move rfl rfl) ?_
                      refine RL.op _ (by decide) (opv_call (cap := []) (laws_eqFloat32S_ok _ _ _ (ownO.read (Sep.at (o := ownO (kF .f32) 40 v11 x21.1) S_23 0 rfl)) _ _ (ownO.read (Sep.at (o := ownO (kF .f32) 40 v3 x3.1) S_23 8 rfl)) _ hx23) rfl rfl ⟨rfl, rfl, trivial⟩ Try.func26 rfl rfl) ?_
                      rintro _ _ ⟨rfl, rfl⟩
                      refine RL.opD (by decide) (opv_not rfl rfl) ?_
                      refine RL.opD (by decide) (opv_move rfl rfl) ?_
                      refine RL.yes _ rfl rfl c12 (by decide) (opv_move rfl rfl) ?_
                      rintro _ _ ⟨rfl, rfl⟩
                      refine RL.yes _ rfl rfl c12 (by decide) (opv_move rfl rfl) ?_
                      rintro _ _ ⟨rfl, rfl⟩
                      refine RL.yes _ rfl rfl c12 (by decide) (opv_bcmp rfl rfl Try.underlying4 rfl rfl) ?_
                      rintro _ _ ⟨rfl, rfl⟩
                      refine RL.opD (by decide) (opv_pick rfl rfl (fun e => absurd (Eq.trans (Eq.symm e) c12) (by decide)) (fun _ => rfl) rfl) ?_
                      refine RL.nil ?_
                      have ey3 := Option.some.inj hy3
                      subst ey3
                      refine onlyN ?_
                      exact ⟨⟨rfl, rfl, rfl, rfl, rfl, rfl, rfl, rfl, rfl, rfl, rfl, rfl, rfl, rfl, rfl, rfl, rfl, rfl, rfl, rfl, rfl, rfl, rfl, trivial⟩, rfl⟩
                  rintro φ' _ ⟨hs3, rfl⟩
                  refine thnN ?_
                  refine W.sub hs3 ?_
                  by_cases c13 : x22 = true
                  · rw [if_pos c13] at hp
                    refine W.condT rfl c13 ?_
                    refine W.seq ?_
                    refine W.region ?_
                    refine RL.opD (by decide) (opv_assign rfl rfl) ?_
                    refine RL.nil ?_
                    refine thnN ?_
                    refine W.ret ?_
                    refine thnR ?_
                    have er := Option.some.inj hp
                    subst er
                    exact Rt.one rfl rfl ⟨rfl, X_14, (Sep.nil _ _ _)⟩
                  · rw [if_neg c13] at hp
                    have c13 := eq_false_of_ne_true c13
                    refine W.condF rfl c13 ?_
                    refine W.skip ?_
                    refine thnN ?_
                    refine W.seq ?_
                    refine W.region ?_
                    refine RL.opD (by decide) (opv_assign rfl rfl) ?_
                    refine RL.nil ?_
                    refine thnN ?_
                    refine W.seq ?_
                    obtain ⟨x24, hx24, hp⟩ := Option.bind_eq_some_iff.1 hp
                    refine W.region ?_
                    refine RL.opD (by decide) (opv_move rfl rfl) ?_
                    refine RL.opD (by decide) (opv_move rfl rfl) ?_
                    refine RL.op _ (by decide) (opv_call (cap := []) (laws_heldFloat32S_ok _ _ _ (ownO.read (Sep.at (o := ownO (kF .f32) 40 v6 x17.2) S_23 3 rfl)) _ _ hx24) rfl rfl ⟨rfl, rfl, trivial⟩ Try.func28 rfl rfl) ?_
                    rintro _ _ ⟨rfl, rfl⟩
                    refine RL.opD (by decide) (opv_assign rfl rfl) ?_
                    refine RL.nil ?_
                    refine thnN ?_
                    refine W.seq ?_
                    refine W.seq ?_
                    refine W.region ?_
                    refine RL.opD (by decide) (opv_move rfl rfl) ?_
                    refine RL.opD (by decide) (opv_icmp rfl rfl rfl rfl) ?_
                    refine RL.nil ?_
                    refine thnN ?_
                    by_cases c14 : (decide (x24 < 0)) = true
                    · rw [if_pos c14] at hp
                      refine W.condT rfl c14 ?_
                      refine W.seq ?_
                      refine W.region ?_
                      refine RL.opD (by decide) (opv_assign rfl rfl) ?_
                      refine RL.nil ?_
                      refine thnN ?_
                      refine W.ret ?_
                      refine thnR ?_
                      have er := Option.some.inj hp
                      subst er
                      exact Rt.one rfl rfl ⟨rfl, X_14, (Sep.nil _ _ _)⟩
                    · rw [if_neg c14] at hp
                      have c14 := eq_false_of_ne_true c14
                      refine W.condF rfl c14 ?_
                      refine W.skip ?_
                      refine thnN ?_
                      refine W.seq ?_
                      refine W.seq ?_
                      refine W.region ?_
                      refine RL.opD (by decide) (opv_move rfl rfl) ?_
                      refine RL.opD (by decide) (opv_move rfl rfl) ?_
                      refine RL.opD (by decide) (opv_icmp rfl rfl rfl rfl) ?_
                      refine RL.nil ?_
                      refine thnN ?_
                      by_cases c15 : (x24 != x17.1) = true
                      · rw [if_pos c15] at hp
                        refine W.condT rfl c15 ?_
                        refine W.seq ?_
                        refine W.region ?_
                        refine RL.opD (by decide) (opv_assign rfl rfl) ?_
                        refine RL.nil ?_
                        refine thnN ?_
                        refine W.ret ?_
                        refine thnR ?_
                        have er := Option.some.inj hp
                        subst er
                        exact Rt.one rfl rfl ⟨rfl, X_14, (Sep.nil _ _ _)⟩
                      · rw [if_neg c15] at hp
                        have c15 := eq_false_of_ne_true c15
                        refine W.condF rfl c15 ?_
                        refine W.skip ?_
                        refine thnN ?_
                        refine W.seq ?_
                        refine W.region ?_
                        refine RL.opD (by decide) (opv_assign rfl rfl) ?_
                        refine RL.nil ?_
                        refine thnN ?_
                        refine W.ret ?_
                        have er := Option.some.inj hp
                        subst er
                        exact Rt.one rfl rfl ⟨rfl, X_14, (Sep.nil _ _ _)⟩

end Go.H
