/- Functions of the program: what each computes, as a plain function, and that the call comes to it. Written by a program (wip/gen). -/
import Derived.Test.YtmgoblppedmdhaaGSrc
import Derived.Test.YtmgoblppedmdhaaLibB
import Derived.Test.YtmgoblppedmdhaaProg
import Derived.KernelRfl
set_option linter.unusedVariables false
namespace Go.H
open Go Go.Proofs



noncomputable def spec_R8Record.s0 (a0 : List (Int)) (x2 : Int) (x3 : List (Option Nat)) (x4 : Int) (x5 : Int) : Option ((Int × (List (Option Nat)) × Int × Int) ⊕ (Int × Bool × Int × Int × (List (Option Nat)))) :=
 (if (decide (x2 > 0)) = true then ((spec_l00Src_pick a0 x4 x5 17).bind fun (x11 : (Int × Int × Int)) => (if x3.length + [fop .quo .f32 (fofi .f32 (IntKind.wrap .i64 (x11.1 - 8))) (some 1082130432)].length ≤ 1000000000 then some (.inl (IntKind.wrap .i64 (x2 - 1), x3 ++ [fop .quo .f32 (fofi .f32 (IntKind.wrap .i64 (x11.1 - 8))) (some 1082130432)], x11.2.1, x11.2.2)) else none)) else some (.inr (x2, decide (x2 > 0), x4, x5, x3)))

noncomputable def spec_R8Record (a0 : List (Int)) (a1 : Int) : Option (List (Option Nat)) :=
 ((spec_l00From a0).bind fun (x1 : (Int × Int)) => ((loopF (fun (s : (Int × (List (Option Nat)) × Int × Int)) => spec_R8Record.s0 a0 s.1 s.2.1 s.2.2.1 s.2.2.2) (a1, ([] : List (Option Nat)), x1.1, x1.2)).bind fun (⟨x6, x7, x8, x9, x10⟩ : (Int × Bool × Int × Int × (List (Option Nat)))) => some x10))

noncomputable def laws_r8Long (a0 : List (Int)) (a1 : List (Int)) : Option Bool :=
 (((if (decide ((a0.length : Int) > 48)) = true then some true else some (decide ((a1.length : Int) > 48))) : Option Bool).bind fun (x1 : Bool) => some x1)

noncomputable def laws_r8At (a0 : List (Int)) (a1 : Int) (a2 : Int) : Option Int :=
 (((if (decide (a2 ≤ 1)) = true then some true else some (decide (a1 ≥ (a0.length : Int)))) : Option Bool).bind fun (x1 : Bool) => (if x1 = true then some 0 else ((idx a0 a1).bind fun (x2 : Int) => (if a2 = 0 then none else some (Int.tmod (IntKind.wrap .i64 x2) a2)))))

set_option maxRecDepth 20000 in
theorem spec_R8Record_ok (h0 : Heap) (u0 : Value) (a0 : List (Int)) (g0 : SL (kI .u8) h0.size h0 u0 a0) (a1 : Int) (r : List (Option Nat)) (hp : spec_R8Record a0 a1 = some r) : CallsH Try.prog 13 ([u0, (.int .i64 a1)].toArray ++ [].toArray) h0 (fun v h' => Mod [] h0 h' ∧ Sep [] h0.size h' [ownO (kF .f32) 29 v r]) := by
 unfold spec_R8Record at hp
 refine callsH_of_W (l := [u0, (.int .i64 a1)]) (cap := []) 23 Try.func13 rfl rfl rfl ?_
 refine W.seq ?_
 refine W.region ?_
 refine RL.opD (by decide) (opv_assign rfl rfl) ?_
 have S_1 : Sep [] h0.size h0 [ownO (kF .f32) 29 (.slice none 0 0) ([] : List (Option Nat))] := Sep.addNil (Sep.nil [] h0.size h0)
 refine RL.nil ?_
 refine thnN ?_
 refine W.seq ?_
 refine W.region ?_
 refine RL.opD (by decide) (opv_move rfl rfl) ?_
 obtain ⟨x1, hx1, hp⟩ := Option.bind_eq_some_iff.1 hp
 refine RL.op _ (by decide) (opv_call (cap := []) (spec_l00From_ok _ _ _ g0 _ hx1) rfl rfl ⟨rfl, trivial⟩ Try.func68 rfl rfl) ?_
 rintro _ hp1 ⟨v1, rfl, MT_1, T_1⟩
 obtain ⟨X_1, S_2⟩ := Sep.turn0 (Mod.refl [] h0) S_1 MT_1 T_1
 refine RL.opD (by decide) (opv_assign rfl rfl) ?_
 refine RL.nil ?_
 refine thnN ?_
 refine W.seq ?_
 refine W.region ?_
 refine RL.op _ (by decide) (opS_lit0 (K := (kF .f32)) rfl Try.underlying25 Try.isinfo29) ?_
 rintro v2 hp2 ⟨MT_2, T_2⟩
 obtain ⟨X_2, S_3⟩ := Sep.turn0 X_1 S_2 MT_2 T_2
 refine RL.opD (by decide) (opv_assign rfl rfl) ?_
 refine RL.nil ?_
 refine thnN ?_
 refine W.seq ?_
 obtain ⟨y1, hy1, hp⟩ := Option.bind_eq_some_iff.1 hp
 refine W.cut (fun φ' h' => ∃ x6, ∃ x7, ∃ x8, ∃ x9, ∃ x10, ∃ v4, y1 = (x6, x7, x8, x9, x10) ∧ Fr.sub [(0, u0), (4, (.slice none 0 0)), (5, (.pointer (some ⟨v1, 0, none⟩))), (1, (.int .i64 x6)), (11, (.bool x7)), (6, v4)] φ' ∧ Mod [] h0 h' ∧ Sep [] h0.size h' [boxO v1 [u0, (.int .i64 x8), (.int .u64 x9)], ownO (kF .f32) 29 (.slice none 0 0) ([] : List (Option Nat)), ownO (kF .f32) 29 v4 x10]) ?_ ?_
 ·refine W.block ?_
  refine W.loopS (fun (s : (Int × (List (Option Nat)) × Int × Int)) φ' h' => ∃ v3, Fr.sub [(0, u0), (4, (.slice none 0 0)), (5, (.pointer (some ⟨v1, 0, none⟩))), (1, (.int .i64 s.1)), (6, v3)] φ' ∧ Mod [] h0 h' ∧ Sep [] h0.size h' [ownO (kF .f32) 29 v3 s.2.1, boxO v1 [u0, (.int .i64 s.2.2.1), (.int .u64 s.2.2.2)], ownO (kF .f32) 29 (.slice none 0 0) ([] : List (Option Nat))]) hy1 ⟨v2, ⟨rfl, rfl, rfl, rfl, rfl, trivial⟩, X_2, (Sep.sel S_3 [0, 1, 2] (by decide))⟩ ?_
  rintro ⟨x2, x3, x4, x5⟩ φ' hp3 o1 ⟨v3, hs1, X_3, S_4⟩ ho1 hy1
  have hs1 : Fr.sub [(0, u0), (4, (.slice none 0 0)), (5, (.pointer (some ⟨v1, 0, none⟩))), (1, (.int .i64 x2)), (6, v3)] φ' := hs1
  have S_4 : Sep [] h0.size hp3 [ownO (kF .f32) 29 v3 x3, boxO v1 [u0, (.int .i64 x4), (.int .u64 x5)], ownO (kF .f32) 29 (.slice none 0 0) ([] : List (Option Nat))] := S_4
  have ho1 : spec_R8Record.s0 a0 x2 x3 x4 x5 = some o1 := ho1
  unfold spec_R8Record.s0 at ho1
  refine W.sub hs1 ?_
  refine W.seq ?_
  refine W.seq ?_
  refine W.region ?_
  refine RL.opD (by decide) (opv_move rfl rfl) ?_
  refine RL.opD (by decide) (opv_icmp rfl rfl rfl rfl) ?_
  refine RL.nil ?_
  refine thnN ?_
  by_cases c1 : (decide (x2 > 0)) = true
  ·rw [if_pos c1] at ho1
   refine W.condT rfl c1 ?_
   refine W.skip ?_
   refine thnN ?_
   refine W.seq ?_
   refine W.block ?_
   refine W.region ?_
   refine RL.opD (by decide) (opv_move rfl rfl) ?_
   refine RL.opD (by decide) (opv_move rfl rfl) ?_
   obtain ⟨x11, hx11, ho1⟩ := Option.bind_eq_some_iff.1 ho1
   have S_6 : Sep [] h0.size hp3 [boxO v1 [u0, (.int .i64 x4), (.int .u64 x5)]] := Sep.sel S_4 [1] (by decide)
   have S_5 : Sep [some v1] hp3.size hp3 [boxO v1 [u0, (.int .i64 x4), (.int .u64 x5)]] := Sep.own S_6 _
   refine RL.op _ (by decide) (opv_call (cap := []) (spec_l00Src_pick_ok _ h0.size (Nat.le_trans (Nat.le_refl _) (Mod.size X_3)) _ _ _ (SL.mod g0 X_3 (Nat.le_refl _) nob) _ _ _ S_5 (Sep.ge (L := [boxO v1 [u0, (.int .i64 x4), (.int .u64 x5)]]) S_6 (Nat.le_refl _) nob) _ hx11) rfl rfl ⟨rfl, rfl, trivial⟩ Try.func69 rfl rfl) ?_
   rintro _ hp4 ⟨rfl, MT_3, T_3⟩
   have S_7 : Sep [] h0.size hp3 ([boxO v1 [u0, (.int .i64 x4), (.int .u64 x5)]] ++ [ownO (kF .f32) 29 v3 x3, ownO (kF .f32) 29 (.slice none 0 0) ([] : List (Option Nat))]) := Sep.sel S_4 [1, 0, 2] (by decide)
   obtain ⟨X_4, S_8⟩ := Sep.turn X_3 S_7 MT_3 T_3
   refine RL.opD (by decide) (opv_sub rfl rfl rfl) ?_
   refine RL.opF (by decide) (opv_i2f rfl (by rw [Try.underlying2]; rfl) Try.underlying29 rfl) ?_
   intro v5 fv5
   refine RL.opF (by decide) (opv_fop rfl rfl rfl rfl fv5 (isF_lit .f32 1082130432 (by decide) (by decide))) ?_
   intro v6 fv6
   refine RL.op _ (by decide) (opS_lit1 (K := (kF .f32)) (z := (fop .quo .f32 (fofi .f32 (IntKind.wrap .i64 (x11.1 - 8))) (some 1082130432))) rfl Try.underlying25 Try.einfo29 rfl rfl rfl rfl ⟨_, rfl, fv6⟩) ?_
   rintro v7 hp5 ⟨MT_4, T_4⟩
   obtain ⟨X_5, S_9⟩ := Sep.turn0 X_4 S_8 MT_4 T_4
   obtain ⟨c2, ho1⟩ := of_ite ho1
   refine RL.op _ (by decide) (opS_append (K := (kF .f32)) rfl Try.underlying25 Try.einfo29 rfl rfl rfl rfl (Sep.at (o := ownO (kF .f32) 29 v3 x3) S_9 2 rfl) (ownO.read (Sep.at (o := ownO (kF .f32) 29 v7 [fop .quo .f32 (fofi .f32 (IntKind.wrap .i64 (x11.1 - 8))) (some 1082130432)]) S_9 0 rfl)) (by decide) (by decide) c2) ?_
   rintro v8 hp6 ⟨MT_5, T_5⟩
   have S_10 : Sep [] h0.size hp5 ([ownO (kF .f32) 29 v3 x3] ++ [ownO (kF .f32) 29 v7 [fop .quo .f32 (fofi .f32 (IntKind.wrap .i64 (x11.1 - 8))) (some 1082130432)], boxO v1 [u0, (.int .i64 x11.2.1), (.int .u64 x11.2.2)], ownO (kF .f32) 29 (.slice none 0 0) ([] : List (Option Nat))]) := Sep.sel S_9 [2, 0, 1, 3] (by decide)
   obtain ⟨X_6, S_11⟩ := Sep.turn X_5 S_10 MT_5 T_5
   refine RL.opD (by decide) (opv_assign rfl rfl) ?_
   refine RL.nil ?_
   refine blkN ?_
   refine thnN ?_
   refine W.region ?_
   refine RL.opD (by decide) (opv_move rfl rfl) ?_
   refine RL.opD (by decide) (opv_sub rfl rfl rfl) ?_
   refine RL.opD (by decide) (opv_assign rfl rfl) ?_
   refine RL.nil ?_
   have eo1 := Option.some.inj ho1
   subst eo1
   refine rndN (s' := (IntKind.wrap .i64 (x2 - 1), x3 ++ [fop .quo .f32 (fofi .f32 (IntKind.wrap .i64 (x11.1 - 8))) (some 1082130432)], x11.2.1, x11.2.2)) rfl ?_
   exact ⟨v8, ⟨rfl, rfl, rfl, rfl, rfl, trivial⟩, X_6, (Sep.sel S_11 [0, 2, 3] (by decide))⟩
  ·rw [if_neg c1] at ho1
   have c1 := eq_false_of_ne_true c1
   refine W.condF rfl c1 ?_
   refine W.exit ?_
   refine thnX ?_
   refine rndX ?_
   refine blkI ?_
   have eo1 := Option.some.inj ho1
   subst eo1
   have ey1 := hy1 _ rfl
   subst ey1
   refine onlyN ?_
   exact ⟨x2, decide (x2 > 0), x4, x5, x3, v3, rfl, ⟨rfl, rfl, rfl, rfl, rfl, rfl, trivial⟩, X_3, (Sep.sel S_4 [1, 2, 0] (by decide))⟩
 rintro φ' hp7 ⟨x6, x7, x8, x9, x10, v4, rfl, hs2, X_7, S_12⟩
 try dsimp only at hp
 refine thnN ?_
 refine W.sub hs2 ?_
 refine W.seq ?_
 refine W.region ?_
 refine RL.opD (by decide) (opv_move rfl rfl) ?_
 refine RL.opD (by decide) (opv_assign rfl rfl) ?_
 refine RL.nil ?_
 refine thnN ?_
 refine W.ret ?_
 have er := Option.some.inj hp
 subst er
 exact Rt.one rfl rfl ⟨X_7, (Sep.sel S_12 [2] (by decide))⟩

set_option maxRecDepth 20000 in
theorem laws_r8Long_ok (h0 : Heap) (u0 : Value) (a0 : List (Int)) (g0 : SL (kI .u8) h0.size h0 u0 a0) (u1 : Value) (a1 : List (Int)) (g1 : SL (kI .u8) h0.size h0 u1 a1) (r : Bool) (hp : laws_r8Long a0 a1 = some r) : CallsH Try.prog 11 ([u0, u1].toArray ++ [].toArray) h0 (fun v h' => v = (.bool r) ∧ h0 = h') := by
 unfold laws_r8Long at hp
 refine callsH_of_W (l := [u0, u1]) (cap := []) 13 Try.func11 rfl rfl rfl ?_
 refine W.seq ?_
 refine W.region ?_
 refine RL.opD (by decide) (opv_assign rfl rfl) ?_
 refine RL.nil ?_
 refine thnN ?_
 refine W.seq ?_
 obtain ⟨x1, hy1, hp⟩ := Option.bind_eq_some_iff.1 hp
 refine W.cut (fun φ' h' => Fr.sub [(0, u0), (1, u1), (4, (.bool x1))] φ' ∧ h0 = h') ?_ ?_
 ·refine W.region ?_
  refine RL.opD (by decide) (opv_move rfl rfl) ?_
  refine RL.opD (by decide) (opv_len rfl Try.underlying22 rfl g0) ?_
  refine RL.opD (by decide) (opv_icmp rfl rfl rfl rfl) ?_
  refine RL.opD (by decide) (opv_move rfl rfl) ?_
  by_cases c1 : (decide ((a0.length : Int) > 48)) = true
  ·rw [if_pos c1] at hy1
   refine RL.noT rfl rfl c1 (by decide) ?_
   refine RL.noT rfl rfl c1 (by decide) ?_
   refine RL.noT rfl rfl c1 (by decide) ?_
   refine RL.opD (by decide) (opv_pick rfl rfl (fun _ => rfl) (fun e => absurd (Eq.trans (Eq.symm e) c1) (by decide)) rfl) ?_
   refine RL.opD (by decide) (opv_assign rfl rfl) ?_
   refine RL.nil ?_
   have ey1 := Option.some.inj hy1
   subst ey1
   refine onlyN ?_
   exact ⟨⟨rfl, rfl, rfl, trivial⟩, rfl⟩
  ·rw [if_neg c1] at hy1
   have c1 := eq_false_of_ne_true c1
   refine RL.yesD rfl rfl c1 (by decide) (opv_move rfl rfl) ?_
   refine RL.yesD rfl rfl c1 (by decide) (opv_len rfl Try.underlying22 rfl g1) ?_
   refine RL.yesD rfl rfl c1 (by decide) (opv_icmp rfl rfl rfl rfl) ?_
   refine RL.opD (by decide) (opv_pick rfl rfl (fun e => absurd (Eq.trans (Eq.symm e) c1) (by decide)) (fun _ => rfl) rfl) ?_
   refine RL.opD (by decide) (opv_assign rfl rfl) ?_
   refine RL.nil ?_
   have ey1 := Option.some.inj hy1
   subst ey1
   refine onlyN ?_
   exact ⟨⟨rfl, rfl, rfl, trivial⟩, rfl⟩
 rintro φ' _ ⟨hs1, rfl⟩
 refine thnN ?_
 refine W.sub hs1 ?_
 refine W.ret ?_
 have er := Option.some.inj hp
 subst er
 exact Rt.one rfl rfl ⟨rfl, rfl⟩

set_option maxRecDepth 20000 in
theorem laws_r8At_ok (h0 : Heap) (u0 : Value) (a0 : List (Int)) (g0 : SL (kI .u8) h0.size h0 u0 a0) (a1 : Int) (a2 : Int) (r : Int) (hp : laws_r8At a0 a1 a2 = some r) : CallsH Try.prog 12 ([u0, (.int .i64 a1), (.int .i64 a2)].toArray ++ [].toArray) h0 (fun v h' => v = (.int .i64 r) ∧ h0 = h') := by
 unfold laws_r8At at hp
 refine callsH_of_W (l := [u0, (.int .i64 a1), (.int .i64 a2)]) (cap := []) 22 Try.func12 rfl rfl rfl ?_
 refine W.seq ?_
 refine W.region ?_
 refine RL.opD (by decide) (opv_assign rfl rfl) ?_
 refine RL.nil ?_
 refine thnN ?_
 refine W.seq ?_
 refine W.seq ?_
 obtain ⟨x1, hy1, hp⟩ := Option.bind_eq_some_iff.1 hp
 refine W.cut (fun φ' h' => Fr.sub [(0, u0), (1, (.int .i64 a1)), (2, (.int .i64 a2)), (6, (.int .i64 0)), (14, (.bool x1))] φ' ∧ h0 = h') ?_ ?_
 ·refine W.region ?_
  refine RL.opD (by decide) (opv_move rfl rfl) ?_
  refine RL.opD (by decide) (opv_icmp rfl rfl rfl rfl) ?_
  refine RL.opD (by decide) (opv_move rfl rfl) ?_
  by_cases c1 : (decide (a2 ≤ 1)) = true
  ·rw [if_pos c1] at hy1
   refine RL.noT rfl rfl c1 (by decide) ?_
   refine RL.noT rfl rfl c1 (by decide) ?_
   refine RL.noT rfl rfl c1 (by decide) ?_
   refine RL.noT rfl rfl c1 (by decide) ?_
   refine RL.opD (by decide) (opv_pick rfl rfl (fun _ => rfl) (fun e => absurd (Eq.trans (Eq.symm e) c1) (by decide)) rfl) ?_
   refine RL.nil ?_
   have ey1 := Option.some.inj hy1
   subst ey1
   refine onlyN ?_
   exact ⟨⟨rfl, rfl, rfl, rfl, rfl, trivial⟩, rfl⟩
  ·rw [if_neg c1] at hy1
   have c1 := eq_false_of_ne_true c1
   refine RL.yesD rfl rfl c1 (by decide) (opv_move rfl rfl) ?_
   refine RL.yesD rfl rfl c1 (by decide) (opv_move rfl rfl) ?_
   refine RL.yesD rfl rfl c1 (by decide) (opv_len rfl Try.underlying22 rfl g0) ?_
   refine RL.yesD rfl rfl c1 (by decide) (opv_icmp rfl rfl rfl rfl) ?_
   refine RL.opD (by decide) (opv_pick rfl rfl (fun e => absurd (Eq.trans (Eq.symm e) c1) (by decide)) (fun _ => rfl) rfl) ?_
   refine RL.nil ?_
   have ey1 := Option.some.inj hy1
   subst ey1
   refine onlyN ?_
   exact ⟨⟨rfl, rfl, rfl, rfl, rfl, trivial⟩, rfl⟩
 rintro φ' _ ⟨hs1, rfl⟩
 refine thnN ?_
 refine W.sub hs1 ?_
 by_cases c2 : x1 = true
 ·rw [if_pos c2] at hp
  refine W.condT rfl c2 ?_
  refine W.seq ?_
  refine W.region ?_
  refine RL.opD (by decide) (opv_assign rfl rfl) ?_
  refine RL.nil ?_
  refine thnN ?_
  refine W.ret ?_
  refine thnR ?_
  have er := Option.some.inj hp
  subst er
  exact Rt.one rfl rfl ⟨rfl, rfl⟩
 ·rw [if_neg c2] at hp
  have c2 := eq_false_of_ne_true c2
  refine W.condF rfl c2 ?_
  refine W.skip ?_
  refine thnN ?_
  refine W.seq ?_
  refine W.region ?_
  refine RL.opD (by decide) (opv_move rfl rfl) ?_
  refine RL.opD (by decide) (opv_move rfl rfl) ?_
  obtain ⟨x2, hx2, hp⟩ := Option.bind_eq_some_iff.1 hp
  refine RL.op _ (by decide) (opv_index rfl Try.underlying22 (by rw [Try.size5]; rfl) rfl rfl g0 hx2) ?_
  rintro v1 _ ⟨fv1, rfl⟩
  refine RL.opD (by decide) (opv_loadI rfl Try.one5 rfl fv1 g0 hx2) ?_
  refine RL.opD (by decide) (opv_i2i rfl (by rw [Try.underlying5]; rfl) Try.underlying2 rfl) ?_
  refine RL.opD (by decide) (opv_move rfl rfl) ?_
  by_cases nc3 : a2 = 0
  ·rw [if_pos nc3] at hp; cases hp
  rw [if_neg nc3] at hp
  have c3 : a2 ≠ 0 := nc3
  refine RL.opD (by decide) (opv_rem rfl c3 rfl rfl) ?_
  refine RL.opD (by decide) (opv_assign rfl rfl) ?_
  refine RL.nil ?_
  refine thnN ?_
  refine W.ret ?_
  have er := Option.some.inj hp
  subst er
  exact Rt.one rfl rfl ⟨rfl, rfl⟩

end Go.H
