/- Functions of the program: what each computes, as a plain function, and that the call comes to it. Written by a program (wip/gen). -/
import Derived.Test.YtmgoblppedmdhaaGMax
import Derived.Test.YtmgoblppedmdhaaGBase
import Derived.Test.YtmgoblppedmdhaaGSheet
import Derived.Test.YtmgoblppedmdhaaGField
import Derived.Test.YtmgoblppedmdhaaGRect
import Derived.Test.YtmgoblppedmdhaaLib2
import Derived.Test.YtmgoblppedmdhaaProg
import Derived.KernelRfl
set_option linter.unusedVariables false
namespace Go.H
open Go Go.Proofs



noncomputable def impl_SlitSheet_1 (a0 : Int) (a1 : Int) (a2 : Int) (ae0_0 : Int) (ae1_0 : List (Int × Bool)) (ae2_0 : Int) (ae2_1 : Int) (ae2_2 : Bool) (ae2_3 : List (Option Nat)) (ae2_4 : List (Option Nat)) : Option (Int × (List (Int × Bool)) × Int × Int × Bool × (List (Option Nat)) × (List (Option Nat))) :=
 (((if (a0 == ae0_0) = true then some (!(mapGet ae1_0 a1)) else some false) : Option Bool).bind fun (x1 : Bool) => (((if x1 = true then ((idx ae2_3 a2).bind fun (x3 : Option Nat) => ((setF ae2_3 a2 (some 0)).bind fun (x4 : List (Option Nat)) => some x4)) else some ae2_3) : Option (List (Option Nat))).bind fun (x2 : List (Option Nat)) => some (ae0_0, ae1_0, ae2_0, ae2_1, ae2_2, x2, ae2_4)))

noncomputable def impl_Sheet_each__impl_SlitSheet_1.s1 (a0_0 : Int) (a0_1 : Int) (a0_2 : Bool) (a0_3 : List (Option Nat)) (a0_4 : List (Option Nat)) (x1 : Int) (x18 : Int) (x19 : Int) (x20 : List (Int × Bool)) (x21 : Int) (x22 : Int) (x23 : Bool) (x24 : List (Option Nat)) (x25 : List (Option Nat)) : Option ((Int × Int × (List (Int × Bool)) × Int × Int × Bool × (List (Option Nat)) × (List (Option Nat))) ⊕ (Int × Bool × Int × (List (Int × Bool)) × Int × Int × Bool × (List (Option Nat)) × (List (Option Nat)))) :=
 (if (decide (x18 < a0_0)) = true then ((impl_Sheet_at a0_0 a0_1 a0_2 a0_3 a0_4 x18 x1).bind fun (x35 : Int) => ((impl_SlitSheet_1 x18 x1 x35 x19 x20 x21 x22 x23 x24 x25).bind fun (x36 : (Int × (List (Int × Bool)) × Int × Int × Bool × (List (Option Nat)) × (List (Option Nat)))) => some (.inl (IntKind.wrap .i64 (x18 + 1), x36.1, x36.2.1, x36.2.2.1, x36.2.2.2.1, x36.2.2.2.2.1, x36.2.2.2.2.2.1, x36.2.2.2.2.2.2)))) else some (.inr (x18, decide (x18 < a0_0), x19, x20, x21, x22, x23, x24, x25)))

noncomputable def impl_Sheet_each__impl_SlitSheet_1.s0 (a0_0 : Int) (a0_1 : Int) (a0_2 : Bool) (a0_3 : List (Option Nat)) (a0_4 : List (Option Nat)) (x1 : Int) (x2 : Int) (x3 : List (Int × Bool)) (x4 : Int) (x5 : Int) (x6 : Bool) (x7 : List (Option Nat)) (x8 : List (Option Nat)) : Option ((Int × Int × (List (Int × Bool)) × Int × Int × Bool × (List (Option Nat)) × (List (Option Nat))) ⊕ (Int × Bool × Int × (List (Int × Bool)) × Int × Int × Bool × (List (Option Nat)) × (List (Option Nat)))) :=
 (if (decide (x1 < a0_1)) = true then ((loopF (fun (s : (Int × Int × (List (Int × Bool)) × Int × Int × Bool × (List (Option Nat)) × (List (Option Nat)))) => impl_Sheet_each__impl_SlitSheet_1.s1 a0_0 a0_1 a0_2 a0_3 a0_4 x1 s.1 s.2.1 s.2.2.1 s.2.2.2.1 s.2.2.2.2.1 s.2.2.2.2.2.1 s.2.2.2.2.2.2.1 s.2.2.2.2.2.2.2) (0, x2, x3, x4, x5, x6, x7, x8)).bind fun (⟨x26, x27, x28, x29, x30, x31, x32, x33, x34⟩ : (Int × Bool × Int × (List (Int × Bool)) × Int × Int × Bool × (List (Option Nat)) × (List (Option Nat)))) => some (.inl (IntKind.wrap .i64 (x1 + 1), x28, x29, x30, x31, x32, x33, x34))) else some (.inr (x1, decide (x1 < a0_1), x2, x3, x4, x5, x6, x7, x8)))

noncomputable def impl_Sheet_each__impl_SlitSheet_1 (a0_0 : Int) (a0_1 : Int) (a0_2 : Bool) (a0_3 : List (Option Nat)) (a0_4 : List (Option Nat)) (ae0_0 : Int) (ae1_0 : List (Int × Bool)) (ae2_0 : Int) (ae2_1 : Int) (ae2_2 : Bool) (ae2_3 : List (Option Nat)) (ae2_4 : List (Option Nat)) : Option (Int × (List (Int × Bool)) × Int × Int × Bool × (List (Option Nat)) × (List (Option Nat))) :=
 ((loopF (fun (s : (Int × Int × (List (Int × Bool)) × Int × Int × Bool × (List (Option Nat)) × (List (Option Nat)))) => impl_Sheet_each__impl_SlitSheet_1.s0 a0_0 a0_1 a0_2 a0_3 a0_4 s.1 s.2.1 s.2.2.1 s.2.2.2.1 s.2.2.2.2.1 s.2.2.2.2.2.1 s.2.2.2.2.2.2.1 s.2.2.2.2.2.2.2) (0, ae0_0, ae1_0, ae2_0, ae2_1, ae2_2, ae2_3, ae2_4)).bind fun (⟨x9, x10, x11, x12, x13, x14, x15, x16, x17⟩ : (Int × Bool × Int × (List (Int × Bool)) × Int × Int × Bool × (List (Option Nat)) × (List (Option Nat)))) => some (x11, x12, x13, x14, x15, x16, x17))

noncomputable def impl_SlitSheet.s0 (a0_1 : Int) (a2 : List (Int)) (x3 : Bool) (x4 : Int) (x5 : Int) (x6 : List (Int × Bool)) : Option ((Bool × Int × Int × (List (Int × Bool))) ⊕ ((Bool × Int × Int × Bool × (List (Int × Bool))) ⊕ (Int × Int × Bool × (List (Option Nat)) × (List (Option Nat)) × Bool))) :=
 (if (decide (x5 < (a2.length : Int))) = true then ((idx a2 x5).bind fun (x12 : Int) => ((impl_within x12 (IntKind.wrap .i64 (x4 + 1)) (IntKind.wrap .i64 (a0_1 - 1))).bind fun (x13 : Bool) => (if (!x13) = true then some (.inr (.inr (0, 0, false, ([] : List (Option Nat)), ([] : List (Option Nat)), false))) else (if (x6.all fun p => p.1 != x12) = true then some (.inl (x3, x12, IntKind.wrap .i64 (x5 + 1), x6 ++ [(x12, true)])) else none)))) else some (.inr (.inl (x3, x4, x5, decide (x5 < (a2.length : Int)), x6))))

noncomputable def impl_SlitSheet (a0_0 : Int) (a0_1 : Int) (a0_2 : Bool) (a0_3 : List (Option Nat)) (a0_4 : List (Option Nat)) (a1 : Int) (a2 : List (Int)) : Option (Int × Int × Bool × (List (Option Nat)) × (List (Option Nat)) × Bool) :=
 ((((impl_isValidCell a0_0 a0_1 a0_2 a0_3 a0_4 a1 0).bind fun (x2 : Bool) => (if (!x2) = true then some true else some (decide ((a2.length : Int) > 8)))) : Option Bool).bind fun (x1 : Bool) => (if x1 = true then some (0, 0, false, ([] : List (Option Nat)), ([] : List (Option Nat)), false) else ((loopF (fun (s : (Bool × Int × Int × (List (Int × Bool)))) => impl_SlitSheet.s0 a0_1 a2 s.1 s.2.1 s.2.2.1 s.2.2.2) (false, (-1), 0, ([] : List (Int × Bool)))).bind fun (y2 : ((Bool × Int × Int × Bool × (List (Int × Bool))) ⊕ (Int × Int × Bool × (List (Option Nat)) × (List (Option Nat)) × Bool))) => match y2 with | .inl (x7, x8, x9, x10, x11) => ((impl_copySheet a0_0 a0_1 a0_2 a0_3 a0_4).bind fun (x14 : (Int × Int × Bool × (List (Option Nat)) × (List (Option Nat)))) => ((impl_Sheet_each__impl_SlitSheet_1 a0_0 a0_1 a0_2 a0_3 a0_4 a1 x11 x14.1 x14.2.1 x14.2.2.1 x14.2.2.2.1 x14.2.2.2.2).bind fun (x15 : (Int × (List (Int × Bool)) × Int × Int × Bool × (List (Option Nat)) × (List (Option Nat)))) => some (x15.2.2.1, x15.2.2.2.1, x15.2.2.2.2.1, x15.2.2.2.2.2.1, x15.2.2.2.2.2.2, true))) | .inr r1 => some r1)))

set_option maxRecDepth 20000 in
theorem impl_SlitSheet_1_ok (h0 : Heap) (lo : Nat) (hlo : lo ≤ h0.size) (a0 : Int) (a1 : Int) (a2 : Int) (be0 : Nat) (ae0_0 : Int) (be1 : Nat) (re1_0 : Nat) (ae1_0 : List (Int × Bool)) (be2 : Nat) (ae2_0 : Int) (ae2_1 : Int) (ae2_2 : Bool) (ue2_3 : Value) (ae2_3 : List (Option Nat)) (ue2_4 : Value) (ae2_4 : List (Option Nat)) (S0 : Sep [some be0, some be1, some re1_0, some be2, ue2_3.ownBlock, ue2_4.ownBlock] h0.size h0 [boxO be0 [(.int .i64 ae0_0)], boxO be1 [(.map (some re1_0))], mapO re1_0 ae1_0, boxO be2 [(.int .i64 ae2_0), (.int .i64 ae2_1), (.bool ae2_2), ue2_3, ue2_4], ownO (kF .f32) 29 ue2_3 ae2_3, ownO (kF .f32) 29 ue2_4 ae2_4]) (hB : ∀ b, some b ∈ [some be0, some be1, some re1_0, some be2, ue2_3.ownBlock, ue2_4.ownBlock] → lo ≤ b) (r : (Int × (List (Int × Bool)) × Int × Int × Bool × (List (Option Nat)) × (List (Option Nat)))) (hp : impl_SlitSheet_1 a0 a1 a2 ae0_0 ae1_0 ae2_0 ae2_1 ae2_2 ae2_3 ae2_4 = some r) : CallsH Try.prog 110 ([(.int .i64 a0), (.int .i64 a1), (.int .i64 a2)].toArray ++ [(.pointer (some ⟨be0, 0, none⟩)), (.pointer (some ⟨be1, 0, none⟩)), (.pointer (some ⟨be2, 0, none⟩))].toArray) h0 (fun v h' => v = (.tuple (List.toArray (α := Value) [])) ∧ Mod [some be0, some be1, some re1_0, some be2, ue2_3.ownBlock, ue2_4.ownBlock] h0 h' ∧ Sep [some be0, some be1, some re1_0, some be2, ue2_3.ownBlock, ue2_4.ownBlock] h0.size h' [boxO be0 [(.int .i64 r.1)], boxO be1 [(.map (some re1_0))], mapO re1_0 r.2.1, boxO be2 [(.int .i64 r.2.2.1), (.int .i64 r.2.2.2.1), (.bool r.2.2.2.2.1), ue2_3, ue2_4], ownO (kF .f32) 29 ue2_3 r.2.2.2.2.2.1, ownO (kF .f32) 29 ue2_4 r.2.2.2.2.2.2]) := by
 unfold impl_SlitSheet_1 at hp
 refine callsH_of_W (l := [(.int .i64 a0), (.int .i64 a1), (.int .i64 a2)]) (cap := [(.pointer (some ⟨be0, 0, none⟩)), (.pointer (some ⟨be1, 0, none⟩)), (.pointer (some ⟨be2, 0, none⟩))]) 22 Try.func110 rfl rfl rfl ?_
 refine W.seq ?_
 obtain ⟨x1, hy1, hp⟩ := Option.bind_eq_some_iff.1 hp
 refine W.cut (fun φ' h' => Fr.sub [(0, (.int .i64 a0)), (1, (.int .i64 a1)), (2, (.int .i64 a2)), (3, (.pointer (some ⟨be0, 0, none⟩))), (4, (.pointer (some ⟨be1, 0, none⟩))), (5, (.pointer (some ⟨be2, 0, none⟩))), (17, (.bool x1))] φ' ∧ h0 = h') ?_ ?_
 ·refine W.region ?_
  refine RL.opD (by decide) (opv_move rfl rfl) ?_
  refine RL.opD (by decide) (opv_loadB rfl Try.one2 rfl (Sep.at (o := boxO be0 [(.int .i64 ae0_0)]) S0 0 rfl) rfl) ?_
  refine RL.opD (by decide) (opv_icmp rfl rfl rfl rfl) ?_
  refine RL.opD (by decide) (opv_move rfl rfl) ?_
  by_cases c1 : (a0 == ae0_0) = true
  ·rw [if_pos c1] at hy1
   refine RL.yesD rfl rfl c1 (by decide) (opv_loadB rfl Try.one134 rfl (Sep.at (o := boxO be1 [(.map (some re1_0))]) S0 1 rfl) rfl) ?_
   refine RL.yesD rfl rfl c1 (by decide) (opv_move rfl rfl) ?_
   refine RL.yesD rfl rfl c1 (by decide) (opv_lookup rfl Try.underlying134 Try.underlying2 Try.zero4 rfl rfl (Sep.at (o := mapO re1_0 ae1_0) S0 2 rfl)) ?_
   refine RL.yesD rfl rfl c1 (by decide) (opv_not rfl rfl) ?_
   refine RL.opD (by decide) (opv_pick rfl rfl (fun _ => rfl) (fun e => absurd (Eq.trans (Eq.symm e) c1) (by decide)) rfl) ?_
   refine RL.nil ?_
   have ey1 := Option.some.inj hy1
   subst ey1
   refine onlyN ?_
   exact ⟨⟨rfl, rfl, rfl, rfl, rfl, rfl, rfl, trivial⟩, rfl⟩
  ·rw [if_neg c1] at hy1
   have c1 := eq_false_of_ne_true c1
   refine RL.noF rfl rfl c1 (by decide) ?_
   refine RL.noF rfl rfl c1 (by decide) ?_
   refine RL.noF rfl rfl c1 (by decide) ?_
   refine RL.noF rfl rfl c1 (by decide) ?_
   refine RL.opD (by decide) (opv_pick rfl rfl (fun e => absurd (Eq.trans (Eq.symm e) c1) (by decide)) (fun _ => rfl) rfl) ?_
   refine RL.nil ?_
   have ey1 := Option.some.inj hy1
   subst ey1
   refine onlyN ?_
   exact ⟨⟨rfl, rfl, rfl, rfl, rfl, rfl, rfl, trivial⟩, rfl⟩
 rintro φ' _ ⟨hs1, rfl⟩
 refine thnN ?_
 refine W.sub hs1 ?_
 obtain ⟨x2, hy2, hp⟩ := Option.bind_eq_some_iff.1 hp
 refine W.cut (fun φ' h' => Fr.sub [(0, (.int .i64 a0)), (1, (.int .i64 a1)), (2, (.int .i64 a2)), (3, (.pointer (some ⟨be0, 0, none⟩))), (4, (.pointer (some ⟨be1, 0, none⟩))), (5, (.pointer (some ⟨be2, 0, none⟩))), (17, (.bool x1))] φ' ∧ Mod [some be0, some be1, some re1_0, some be2, ue2_3.ownBlock, ue2_4.ownBlock] h0 h' ∧ Sep [some be0, some be1, some re1_0, some be2, ue2_3.ownBlock, ue2_4.ownBlock] h0.size h' [boxO be0 [(.int .i64 ae0_0)], boxO be1 [(.map (some re1_0))], mapO re1_0 ae1_0, boxO be2 [(.int .i64 ae2_0), (.int .i64 ae2_1), (.bool ae2_2), ue2_3, ue2_4], ownO (kF .f32) 29 ue2_3 x2, ownO (kF .f32) 29 ue2_4 ae2_4]) ?_ ?_
 ·by_cases c2 : x1 = true
  ·rw [if_pos c2] at hy2
   refine W.condT rfl c2 ?_
   refine W.region ?_
   refine RL.opD (by decide) (opv_fieldAddr rfl Try.fo33_3 rfl) ?_
   refine RL.opD (by decide) (opv_loadB rfl Try.one25 rfl (Sep.at (o := boxO be2 [(.int .i64 ae2_0), (.int .i64 ae2_1), (.bool ae2_2), ue2_3, ue2_4]) S0 3 rfl) rfl) ?_
   refine RL.opD (by decide) (opv_move rfl rfl) ?_
   obtain ⟨x3, hx3, hy2⟩ := Option.bind_eq_some_iff.1 hy2
   refine RL.op _ (by decide) (opv_index rfl Try.underlying25 (by rw [Try.size29]; rfl) rfl rfl (ownO.read (Sep.at (o := ownO (kF .f32) 29 ue2_3 ae2_3) S0 4 rfl)) hx3) ?_
   rintro v1 _ ⟨fv1, rfl⟩
   obtain ⟨x4, hx4, hy2⟩ := Option.bind_eq_some_iff.1 hy2
   refine RL.op0 _ (opS_storeE (K := (kF .f32)) rfl Try.size29 rfl rfl fv1 rfl ⟨_, rfl, (isF_lit .f32 0 (by decide) (by decide))⟩ hx4 (Sep.at (o := ownO (kF .f32) 29 ue2_3 ae2_3) S0 4 rfl)) ?_
   rintro _ hp1 ⟨rfl, MT_1, T_1⟩
   have S_1 : Sep [some be0, some be1, some re1_0, some be2, ue2_3.ownBlock, ue2_4.ownBlock] h0.size h0 ([ownO (kF .f32) 29 ue2_3 ae2_3] ++ [boxO be0 [(.int .i64 ae0_0)], boxO be1 [(.map (some re1_0))], mapO re1_0 ae1_0, boxO be2 [(.int .i64 ae2_0), (.int .i64 ae2_1), (.bool ae2_2), ue2_3, ue2_4], ownO (kF .f32) 29 ue2_4 ae2_4]) := Sep.sel S0 [4, 0, 1, 2, 3, 5] (by decide)
   obtain ⟨X_1, S_2⟩ := Sep.turn (Mod.refl [some be0, some be1, some re1_0, some be2, ue2_3.ownBlock, ue2_4.ownBlock] h0) S_1 MT_1 T_1
   refine RL.nil ?_
   have ey2 := Option.some.inj hy2
   subst ey2
   refine onlyN ?_
   exact ⟨⟨rfl, rfl, rfl, rfl, rfl, rfl, rfl, trivial⟩, X_1, (Sep.sel S_2 [1, 2, 3, 4, 0, 5] (by decide))⟩
  ·rw [if_neg c2] at hy2
   have c2 := eq_false_of_ne_true c2
   refine W.condF rfl c2 ?_
   refine W.skip ?_
   have ey2 := Option.some.inj hy2
   subst ey2
   refine onlyN ?_
   exact ⟨⟨rfl, rfl, rfl, rfl, rfl, rfl, rfl, trivial⟩, (Mod.refl [some be0, some be1, some re1_0, some be2, ue2_3.ownBlock, ue2_4.ownBlock] h0), (Sep.sel S0 [0, 1, 2, 3, 4, 5] (by decide))⟩
 rintro φ' hp2 ⟨hs2, X_2, S_3⟩
 have er := Option.some.inj hp
 subst er
 exact Rt.none' rfl ⟨rfl, X_2, (Sep.sel S_3 [0, 1, 2, 3, 4, 5] (by decide))⟩

set_option maxRecDepth 20000 in
theorem impl_Sheet_each__impl_SlitSheet_1_ok (h0 : Heap) (lo : Nat) (hlo : lo ≤ h0.size) (a0_0 : Int) (a0_1 : Int) (a0_2 : Bool) (u0_3 : Value) (a0_3 : List (Option Nat)) (g0_3 : SL (kF .f32) lo h0 u0_3 a0_3) (u0_4 : Value) (a0_4 : List (Option Nat)) (g0_4 : SL (kF .f32) lo h0 u0_4 a0_4) (be0 : Nat) (ae0_0 : Int) (be1 : Nat) (re1_0 : Nat) (ae1_0 : List (Int × Bool)) (be2 : Nat) (ae2_0 : Int) (ae2_1 : Int) (ae2_2 : Bool) (ue2_3 : Value) (ae2_3 : List (Option Nat)) (ue2_4 : Value) (ae2_4 : List (Option Nat)) (S0 : Sep [some be0, some be1, some re1_0, some be2, ue2_3.ownBlock, ue2_4.ownBlock] h0.size h0 [boxO be0 [(.int .i64 ae0_0)], boxO be1 [(.map (some re1_0))], mapO re1_0 ae1_0, boxO be2 [(.int .i64 ae2_0), (.int .i64 ae2_1), (.bool ae2_2), ue2_3, ue2_4], ownO (kF .f32) 29 ue2_3 ae2_3, ownO (kF .f32) 29 ue2_4 ae2_4]) (hB : ∀ b, some b ∈ [some be0, some be1, some re1_0, some be2, ue2_3.ownBlock, ue2_4.ownBlock] → lo ≤ b) (r : (Int × (List (Int × Bool)) × Int × Int × Bool × (List (Option Nat)) × (List (Option Nat)))) (hp : impl_Sheet_each__impl_SlitSheet_1 a0_0 a0_1 a0_2 a0_3 a0_4 ae0_0 ae1_0 ae2_0 ae2_1 ae2_2 ae2_3 ae2_4 = some r) : CallsH Try.prog 101 ([(.agg (List.toArray (α := Value) [(.int .i64 a0_0), (.int .i64 a0_1), (.bool a0_2), u0_3, u0_4])), (.func (.func 110) #[] (List.toArray (α := Value) [(.pointer (some ⟨be0, 0, none⟩)), (.pointer (some ⟨be1, 0, none⟩)), (.pointer (some ⟨be2, 0, none⟩))]))].toArray ++ [].toArray) h0 (fun v h' => v = (.tuple (List.toArray (α := Value) [])) ∧ Mod [some be0, some be1, some re1_0, some be2, ue2_3.ownBlock, ue2_4.ownBlock] h0 h' ∧ Sep [some be0, some be1, some re1_0, some be2, ue2_3.ownBlock, ue2_4.ownBlock] h0.size h' [boxO be0 [(.int .i64 r.1)], boxO be1 [(.map (some re1_0))], mapO re1_0 r.2.1, boxO be2 [(.int .i64 r.2.2.1), (.int .i64 r.2.2.2.1), (.bool r.2.2.2.2.1), ue2_3, ue2_4], ownO (kF .f32) 29 ue2_3 r.2.2.2.2.2.1, ownO (kF .f32) 29 ue2_4 r.2.2.2.2.2.2]) := by
 unfold impl_Sheet_each__impl_SlitSheet_1 at hp
 refine callsH_of_W (l := [(.agg (List.toArray (α := Value) [(.int .i64 a0_0), (.int .i64 a0_1), (.bool a0_2), u0_3, u0_4])), (.func (.func 110) #[] (List.toArray (α := Value) [(.pointer (some ⟨be0, 0, none⟩)), (.pointer (some ⟨be1, 0, none⟩)), (.pointer (some ⟨be2, 0, none⟩))]))]) (cap := []) 26 Try.func101 rfl rfl rfl ?_
 refine W.seq ?_
 refine W.region ?_
 refine RL.op _ (by decide) (opS_boxed (opv_boxA (cs := [(.int .i64 a0_0), (.int .i64 a0_1), (.bool a0_2), u0_3, u0_4]) rfl rfl)) ?_
 rintro _ hp1 ⟨bb1, rfl, MT_1, T_1⟩
 obtain ⟨X_1, S_1⟩ := Sep.turn0 (Mod.refl [some be0, some be1, some re1_0, some be2, ue2_3.ownBlock, ue2_4.ownBlock] h0) S0 MT_1 T_1
 refine RL.nil ?_
 refine thnN ?_
 refine W.seq ?_
 refine W.region ?_
 refine RL.opD (by decide) (opv_fieldAddr rfl Try.fo33_1 rfl) ?_
 refine RL.opD (by decide) (opv_loadB rfl Try.one2 rfl (Sep.at (o := boxO bb1 [(.int .i64 a0_0), (.int .i64 a0_1), (.bool a0_2), u0_3, u0_4]) S_1 0 rfl) rfl) ?_
 refine RL.opD (by decide) (opv_move rfl rfl) ?_
 refine RL.nil ?_
 refine thnN ?_
 obtain ⟨y1, hy1, hp⟩ := Option.bind_eq_some_iff.1 hp
 refine W.cut (fun φ' h' => ∃ x9, ∃ x10, ∃ x11, ∃ x12, ∃ x13, ∃ x14, ∃ x15, ∃ x16, ∃ x17, y1 = (x9, x10, x11, x12, x13, x14, x15, x16, x17) ∧ Fr.sub [(0, (.agg (List.toArray (α := Value) [(.int .i64 a0_0), (.int .i64 a0_1), (.bool a0_2), u0_3, u0_4]))), (1, (.func (.func 110) #[] (List.toArray (α := Value) [(.pointer (some ⟨be0, 0, none⟩)), (.pointer (some ⟨be1, 0, none⟩)), (.pointer (some ⟨be2, 0, none⟩))]))), (2, (.pointer (some ⟨bb1, 0, none⟩))), (7, (.int .i64 a0_1)), (8, (.int .i64 x9)), (9, (.bool x10))] φ' ∧ Mod [some be0, some be1, some re1_0, some be2, ue2_3.ownBlock, ue2_4.ownBlock] h0 h' ∧ Sep [some be0, some be1, some re1_0, some be2, ue2_3.ownBlock, ue2_4.ownBlock] h0.size h' [boxO bb1 [(.int .i64 a0_0), (.int .i64 a0_1), (.bool a0_2), u0_3, u0_4], boxO be0 [(.int .i64 x11)], boxO be1 [(.map (some re1_0))], mapO re1_0 x12, boxO be2 [(.int .i64 x13), (.int .i64 x14), (.bool x15), ue2_3, ue2_4], ownO (kF .f32) 29 ue2_3 x16, ownO (kF .f32) 29 ue2_4 x17]) ?_ ?_
 ·refine W.block ?_
  refine W.loopS (fun (s : (Int × Int × (List (Int × Bool)) × Int × Int × Bool × (List (Option Nat)) × (List (Option Nat)))) φ' h' => Fr.sub [(0, (.agg (List.toArray (α := Value) [(.int .i64 a0_0), (.int .i64 a0_1), (.bool a0_2), u0_3, u0_4]))), (1, (.func (.func 110) #[] (List.toArray (α := Value) [(.pointer (some ⟨be0, 0, none⟩)), (.pointer (some ⟨be1, 0, none⟩)), (.pointer (some ⟨be2, 0, none⟩))]))), (2, (.pointer (some ⟨bb1, 0, none⟩))), (7, (.int .i64 a0_1)), (8, (.int .i64 s.1))] φ' ∧ Mod [some be0, some be1, some re1_0, some be2, ue2_3.ownBlock, ue2_4.ownBlock] h0 h' ∧ Sep [some be0, some be1, some re1_0, some be2, ue2_3.ownBlock, ue2_4.ownBlock] h0.size h' [boxO bb1 [(.int .i64 a0_0), (.int .i64 a0_1), (.bool a0_2), u0_3, u0_4], boxO be0 [(.int .i64 s.2.1)], boxO be1 [(.map (some re1_0))], mapO re1_0 s.2.2.1, boxO be2 [(.int .i64 s.2.2.2.1), (.int .i64 s.2.2.2.2.1), (.bool s.2.2.2.2.2.1), ue2_3, ue2_4], ownO (kF .f32) 29 ue2_3 s.2.2.2.2.2.2.1, ownO (kF .f32) 29 ue2_4 s.2.2.2.2.2.2.2]) hy1 ⟨⟨rfl, rfl, rfl, rfl, rfl, trivial⟩, X_1, (Sep.sel S_1 [0, 1, 2, 3, 4, 5, 6] (by decide))⟩ ?_
  rintro ⟨x1, x2, x3, x4, x5, x6, x7, x8⟩ φ' hp2 o1 ⟨hs1, X_2, S_2⟩ ho1 hy1
  have hs1 : Fr.sub [(0, (.agg (List.toArray (α := Value) [(.int .i64 a0_0), (.int .i64 a0_1), (.bool a0_2), u0_3, u0_4]))), (1, (.func (.func 110) #[] (List.toArray (α := Value) [(.pointer (some ⟨be0, 0, none⟩)), (.pointer (some ⟨be1, 0, none⟩)), (.pointer (some ⟨be2, 0, none⟩))]))), (2, (.pointer (some ⟨bb1, 0, none⟩))), (7, (.int .i64 a0_1)), (8, (.int .i64 x1))] φ' := hs1
  have S_2 : Sep [some be0, some be1, some re1_0, some be2, ue2_3.ownBlock, ue2_4.ownBlock] h0.size hp2 [boxO bb1 [(.int .i64 a0_0), (.int .i64 a0_1), (.bool a0_2), u0_3, u0_4], boxO be0 [(.int .i64 x2)], boxO be1 [(.map (some re1_0))], mapO re1_0 x3, boxO be2 [(.int .i64 x4), (.int .i64 x5), (.bool x6), ue2_3, ue2_4], ownO (kF .f32) 29 ue2_3 x7, ownO (kF .f32) 29 ue2_4 x8] := S_2
  have ho1 : impl_Sheet_each__impl_SlitSheet_1.s0 a0_0 a0_1 a0_2 a0_3 a0_4 x1 x2 x3 x4 x5 x6 x7 x8 = some o1 := ho1
  unfold impl_Sheet_each__impl_SlitSheet_1.s0 at ho1
  refine W.sub hs1 ?_
  refine W.seq ?_
  refine W.region ?_
  refine RL.opD (by decide) (opv_icmp rfl rfl rfl rfl) ?_
  refine RL.nil ?_
  refine thnN ?_
  refine W.seq ?_
  by_cases c1 : (decide (x1 < a0_1)) = true
  ·rw [if_pos c1] at ho1
   refine W.condT rfl c1 ?_
   refine W.skip ?_
   refine thnN ?_
   refine W.seq ?_
   refine W.block ?_
   refine W.seq ?_
   refine W.region ?_
   refine RL.opD (by decide) (opv_move rfl rfl) ?_
   refine RL.opD (by decide) (opv_assign rfl rfl) ?_
   refine RL.nil ?_
   refine thnN ?_
   refine W.seq ?_
   refine W.region ?_
   refine RL.opD (by decide) (opv_fieldAddr rfl Try.fo33_0 rfl) ?_
   refine RL.opD (by decide) (opv_loadB rfl Try.one2 rfl (Sep.at (o := boxO bb1 [(.int .i64 a0_0), (.int .i64 a0_1), (.bool a0_2), u0_3, u0_4]) S_2 0 rfl) rfl) ?_
   refine RL.opD (by decide) (opv_move rfl rfl) ?_
   refine RL.nil ?_
   refine thnN ?_
   obtain ⟨y2, hy2, ho1⟩ := Option.bind_eq_some_iff.1 ho1
   refine W.cut (fun φ' h' => ∃ x26, ∃ x27, ∃ x28, ∃ x29, ∃ x30, ∃ x31, ∃ x32, ∃ x33, ∃ x34, y2 = (x26, x27, x28, x29, x30, x31, x32, x33, x34) ∧ Fr.sub [(0, (.agg (List.toArray (α := Value) [(.int .i64 a0_0), (.int .i64 a0_1), (.bool a0_2), u0_3, u0_4]))), (1, (.func (.func 110) #[] (List.toArray (α := Value) [(.pointer (some ⟨be0, 0, none⟩)), (.pointer (some ⟨be1, 0, none⟩)), (.pointer (some ⟨be2, 0, none⟩))]))), (2, (.pointer (some ⟨bb1, 0, none⟩))), (7, (.int .i64 a0_1)), (8, (.int .i64 x1)), (9, (.bool (decide (x1 < a0_1)))), (4, (.int .i64 x1)), (12, (.int .i64 a0_0)), (13, (.int .i64 x26)), (14, (.bool x27))] φ' ∧ Mod [some be0, some be1, some re1_0, some be2, ue2_3.ownBlock, ue2_4.ownBlock] h0 h' ∧ Sep [some be0, some be1, some re1_0, some be2, ue2_3.ownBlock, ue2_4.ownBlock] h0.size h' [boxO bb1 [(.int .i64 a0_0), (.int .i64 a0_1), (.bool a0_2), u0_3, u0_4], boxO be0 [(.int .i64 x28)], boxO be1 [(.map (some re1_0))], mapO re1_0 x29, boxO be2 [(.int .i64 x30), (.int .i64 x31), (.bool x32), ue2_3, ue2_4], ownO (kF .f32) 29 ue2_3 x33, ownO (kF .f32) 29 ue2_4 x34]) ?_ ?_
   ·refine W.block ?_
    refine W.loopS (fun (s : (Int × Int × (List (Int × Bool)) × Int × Int × Bool × (List (Option Nat)) × (List (Option Nat)))) φ' h' => Fr.sub [(0, (.agg (List.toArray (α := Value) [(.int .i64 a0_0), (.int .i64 a0_1), (.bool a0_2), u0_3, u0_4]))), (1, (.func (.func 110) #[] (List.toArray (α := Value) [(.pointer (some ⟨be0, 0, none⟩)), (.pointer (some ⟨be1, 0, none⟩)), (.pointer (some ⟨be2, 0, none⟩))]))), (2, (.pointer (some ⟨bb1, 0, none⟩))), (7, (.int .i64 a0_1)), (8, (.int .i64 x1)), (9, (.bool (decide (x1 < a0_1)))), (4, (.int .i64 x1)), (12, (.int .i64 a0_0)), (13, (.int .i64 s.1))] φ' ∧ Mod [some be0, some be1, some re1_0, some be2, ue2_3.ownBlock, ue2_4.ownBlock] h0 h' ∧ Sep [some be0, some be1, some re1_0, some be2, ue2_3.ownBlock, ue2_4.ownBlock] h0.size h' [boxO bb1 [(.int .i64 a0_0), (.int .i64 a0_1), (.bool a0_2), u0_3, u0_4], boxO be0 [(.int .i64 s.2.1)], boxO be1 [(.map (some re1_0))], mapO re1_0 s.2.2.1, boxO be2 [(.int .i64 s.2.2.2.1), (.int .i64 s.2.2.2.2.1), (.bool s.2.2.2.2.2.1), ue2_3, ue2_4], ownO (kF .f32) 29 ue2_3 s.2.2.2.2.2.2.1, ownO (kF .f32) 29 ue2_4 s.2.2.2.2.2.2.2]) hy2 ⟨⟨rfl, rfl, rfl, rfl, rfl, rfl, rfl, rfl, rfl, trivial⟩, X_2, (Sep.sel S_2 [0, 1, 2, 3, 4, 5, 6] (by decide))⟩ ?_
    rintro ⟨x18, x19, x20, x21, x22, x23, x24, x25⟩ φ' hp3 o2 ⟨hs3, X_3, S_3⟩ ho2 hy2
    have hs3 : Fr.sub [(0, (.agg (List.toArray (α := Value) [(.int .i64 a0_0), (.int .i64 a0_1), (.bool a0_2), u0_3, u0_4]))), (1, (.func (.func 110) #[] (List.toArray (α := Value) [(.pointer (some ⟨be0, 0, none⟩)), (.pointer (some ⟨be1, 0, none⟩)), (.pointer (some ⟨be2, 0, none⟩))]))), (2, (.pointer (some ⟨bb1, 0, none⟩))), (7, (.int .i64 a0_1)), (8, (.int .i64 x1)), (9, (.bool (decide (x1 < a0_1)))), (4, (.int .i64 x1)), (12, (.int .i64 a0_0)), (13, (.int .i64 x18))] φ' := hs3
    have S_3 : Sep [some be0, some be1, some re1_0, some be2, ue2_3.ownBlock, ue2_4.ownBlock] h0.size hp3 [boxO bb1 [(.int .i64 a0_0), (.int .i64 a0_1), (.bool a0_2), u0_3, u0_4], boxO be0 [(.int .i64 x19)], boxO be1 [(.map (some re1_0))], mapO re1_0 x20, boxO be2 [(.int .i64 x21), (.int .i64 x22), (.bool x23), ue2_3, ue2_4], ownO (kF .f32) 29 ue2_3 x24, ownO (kF .f32) 29 ue2_4 x25] := S_3
    have ho2 : impl_Sheet_each__impl_SlitSheet_1.s1 a0_0 a0_1 a0_2 a0_3 a0_4 x1 x18 x19 x20 x21 x22 x23 x24 x25 = some o2 := ho2
    unfold impl_Sheet_each__impl_SlitSheet_1.s1 at ho2
    refine W.sub hs3 ?_
    refine W.seq ?_
    refine W.region ?_
    refine RL.opD (by decide) (opv_icmp rfl rfl rfl rfl) ?_
    refine RL.nil ?_
    refine thnN ?_
    refine W.seq ?_
    by_cases c2 : (decide (x18 < a0_0)) = true
    ·rw [if_pos c2] at ho2
     refine W.condT rfl c2 ?_
     refine W.skip ?_
     refine thnN ?_
     refine W.seq ?_
     refine W.block ?_
     refine W.seq ?_
     refine W.region ?_
     refine RL.opD (by decide) (opv_move rfl rfl) ?_
     refine RL.opD (by decide) (opv_assign rfl rfl) ?_
     refine RL.nil ?_
     refine thnN ?_
     refine W.region ?_
     refine RL.opD (by decide) (opv_move rfl rfl) ?_
     refine RL.opD (by decide) (opv_move rfl rfl) ?_
     refine RL.opD (by decide) (opv_move rfl rfl) ?_
     refine RL.opD (by decide) (opv_loadA (us := [(.int .i64 a0_0), (.int .i64 a0_1), (.bool a0_2), u0_3, u0_4]) rfl Try.agg33 Try.size33 rfl (Sep.at (o := boxO bb1 [(.int .i64 a0_0), (.int .i64 a0_1), (.bool a0_2), u0_3, u0_4]) S_3 0 rfl) rfl rfl) ?_
     refine RL.opD (by decide) (opv_move rfl rfl) ?_
     refine RL.opD (by decide) (opv_move rfl rfl) ?_
     obtain ⟨x35, hx35, ho2⟩ := Option.bind_eq_some_iff.1 ho2
     refine RL.op _ (by decide) (opv_call (cap := []) (impl_Sheet_at_ok _ _ _ _ _ _ (SL.up (SL.mod g0_3 X_3 hlo hB) (Nat.le_trans hlo (Mod.size X_3))) _ _ (SL.up (SL.mod g0_4 X_3 hlo hB) (Nat.le_trans hlo (Mod.size X_3))) _ _ _ hx35) rfl rfl ⟨rfl, rfl, rfl, trivial⟩ Try.func108 rfl rfl) ?_
     rintro _ hp4 ⟨rfl, MT_2, T_2⟩
     obtain ⟨X_4, S_4⟩ := Sep.turn0 X_3 S_3 MT_2 T_2
     obtain ⟨x36, hx36, ho2⟩ := Option.bind_eq_some_iff.1 ho2
     have S_6 : Sep [some be0, some be1, some re1_0, some be2, ue2_3.ownBlock, ue2_4.ownBlock] h0.size hp4 [boxO be0 [(.int .i64 x19)], boxO be1 [(.map (some re1_0))], mapO re1_0 x20, boxO be2 [(.int .i64 x21), (.int .i64 x22), (.bool x23), ue2_3, ue2_4], ownO (kF .f32) 29 ue2_3 x24, ownO (kF .f32) 29 ue2_4 x25] := Sep.sel S_4 [1, 2, 3, 4, 5, 6] (by decide)
     have S_5 : Sep [some be0, some be1, some re1_0, some be2, ue2_3.ownBlock, ue2_4.ownBlock] hp4.size hp4 [boxO be0 [(.int .i64 x19)], boxO be1 [(.map (some re1_0))], mapO re1_0 x20, boxO be2 [(.int .i64 x21), (.int .i64 x22), (.bool x23), ue2_3, ue2_4], ownO (kF .f32) 29 ue2_3 x24, ownO (kF .f32) 29 ue2_4 x25] := Sep.own S_6 _
     refine RL.op _ (by decide) (opv_call (cap := [(.pointer (some ⟨be0, 0, none⟩)), (.pointer (some ⟨be1, 0, none⟩)), (.pointer (some ⟨be2, 0, none⟩))]) (impl_SlitSheet_1_ok _ lo (Nat.le_trans hlo (Mod.size X_4)) _ _ _ _ _ _ _ _ _ _ _ _ _ _ _ _ S_5 (Sep.ge (L := [boxO be0 [(.int .i64 x19)], boxO be1 [(.map (some re1_0))], mapO re1_0 x20, boxO be2 [(.int .i64 x21), (.int .i64 x22), (.bool x23), ue2_3, ue2_4], ownO (kF .f32) 29 ue2_3 x24, ownO (kF .f32) 29 ue2_4 x25]) S_6 hlo hB) _ hx36) rfl rfl ⟨rfl, rfl, rfl, trivial⟩ Try.func110 rfl rfl) ?_
     rintro _ hp5 ⟨rfl, MT_3, T_3⟩
     have S_7 : Sep [some be0, some be1, some re1_0, some be2, ue2_3.ownBlock, ue2_4.ownBlock] h0.size hp4 ([boxO be0 [(.int .i64 x19)], boxO be1 [(.map (some re1_0))], mapO re1_0 x20, boxO be2 [(.int .i64 x21), (.int .i64 x22), (.bool x23), ue2_3, ue2_4], ownO (kF .f32) 29 ue2_3 x24, ownO (kF .f32) 29 ue2_4 x25] ++ [boxO bb1 [(.int .i64 a0_0), (.int .i64 a0_1), (.bool a0_2), u0_3, u0_4]]) := Sep.sel S_4 [1, 2, 3, 4, 5, 6, 0] (by decide)
     obtain ⟨X_5, S_8⟩ := Sep.turn X_4 S_7 MT_3 T_3
     refine RL.nil ?_
     refine blkN ?_
     refine thnN ?_
     refine W.region ?_
     refine RL.opD (by decide) (opv_add rfl rfl rfl) ?_
     refine RL.opD (by decide) (opv_move rfl rfl) ?_
     refine RL.nil ?_
     have eo2 := Option.some.inj ho2
     subst eo2
     refine rndN (s' := (IntKind.wrap .i64 (x18 + 1), x36.1, x36.2.1, x36.2.2.1, x36.2.2.2.1, x36.2.2.2.2.1, x36.2.2.2.2.2.1, x36.2.2.2.2.2.2)) rfl ?_
     exact ⟨⟨rfl, rfl, rfl, rfl, rfl, rfl, rfl, rfl, rfl, trivial⟩, X_5, (Sep.sel S_8 [6, 0, 1, 2, 3, 4, 5] (by decide))⟩
    ·rw [if_neg c2] at ho2
     have c2 := eq_false_of_ne_true c2
     refine W.condF rfl c2 ?_
     refine W.exit ?_
     refine thnX ?_
     refine rndX ?_
     refine blkI ?_
     have eo2 := Option.some.inj ho2
     subst eo2
     have ey2 := hy2 _ rfl
     subst ey2
     refine onlyN ?_
     exact ⟨x18, decide (x18 < a0_0), x19, x20, x21, x22, x23, x24, x25, rfl, ⟨rfl, rfl, rfl, rfl, rfl, rfl, rfl, rfl, rfl, rfl, trivial⟩, X_3, (Sep.sel S_3 [0, 1, 2, 3, 4, 5, 6] (by decide))⟩
   rintro φ' hp6 ⟨x26, x27, x28, x29, x30, x31, x32, x33, x34, rfl, hs4, X_6, S_9⟩
   try dsimp only at ho1
   refine blkN ?_
   refine thnN ?_
   refine W.sub hs4 ?_
   refine W.region ?_
   refine RL.opD (by decide) (opv_add rfl rfl rfl) ?_
   refine RL.opD (by decide) (opv_move rfl rfl) ?_
   refine RL.nil ?_
   have eo1 := Option.some.inj ho1
   subst eo1
   refine rndN (s' := (IntKind.wrap .i64 (x1 + 1), x28, x29, x30, x31, x32, x33, x34)) rfl ?_
   exact ⟨⟨rfl, rfl, rfl, rfl, rfl, trivial⟩, X_6, (Sep.sel S_9 [0, 1, 2, 3, 4, 5, 6] (by decide))⟩
  ·rw [if_neg c1] at ho1
   have c1 := eq_false_of_ne_true c1
   refine W.condF rfl c1 ?_
   refine W.exit ?_
   refine thnX ?_
   refine rndX ?_
   refine blkI ?_
   have eo1 := Option.some.inj ho1
   subst eo1
   have ey1 := hy1 _ rfl
   subst ey1
   refine onlyN ?_
   exact ⟨x1, decide (x1 < a0_1), x2, x3, x4, x5, x6, x7, x8, rfl, ⟨rfl, rfl, rfl, rfl, rfl, rfl, trivial⟩, X_2, (Sep.sel S_2 [0, 1, 2, 3, 4, 5, 6] (by decide))⟩
 rintro φ' hp7 ⟨x9, x10, x11, x12, x13, x14, x15, x16, x17, rfl, hs2, X_7, S_10⟩
 try dsimp only at hp
 have er := Option.some.inj hp
 subst er
 exact Rt.none' rfl ⟨rfl, X_7, (Sep.sel S_10 [1, 2, 3, 4, 5, 6] (by decide))⟩

set_option maxRecDepth 20000 in
theorem impl_SlitSheet_ok (h0 : Heap) (a0_0 : Int) (a0_1 : Int) (a0_2 : Bool) (u0_3 : Value) (a0_3 : List (Option Nat)) (g0_3 : SL (kF .f32) h0.size h0 u0_3 a0_3) (u0_4 : Value) (a0_4 : List (Option Nat)) (g0_4 : SL (kF .f32) h0.size h0 u0_4 a0_4) (a1 : Int) (u2 : Value) (a2 : List (Int)) (g2 : SL (kI .i64) h0.size h0 u2 a2) (r : (Int × Int × Bool × (List (Option Nat)) × (List (Option Nat)) × Bool)) (hp : impl_SlitSheet a0_0 a0_1 a0_2 a0_3 a0_4 a1 a2 = some r) : CallsH Try.prog 44 ([(.agg (List.toArray (α := Value) [(.int .i64 a0_0), (.int .i64 a0_1), (.bool a0_2), u0_3, u0_4])), (.int .i64 a1), u2].toArray ++ [].toArray) h0 (fun v h' => ∃ w3, ∃ w4, v = (.tuple (List.toArray (α := Value) [(.agg (List.toArray (α := Value) [(.int .i64 r.1), (.int .i64 r.2.1), (.bool r.2.2.1), w3, w4])), (.bool r.2.2.2.2.2)])) ∧ Mod [] h0 h' ∧ Sep [] h0.size h' [ownO (kF .f32) 29 w3 r.2.2.2.1, ownO (kF .f32) 29 w4 r.2.2.2.2.1]) := by
 unfold impl_SlitSheet at hp
 refine callsH_of_W (l := [(.agg (List.toArray (α := Value) [(.int .i64 a0_0), (.int .i64 a0_1), (.bool a0_2), u0_3, u0_4])), (.int .i64 a1), u2]) (cap := []) 49 Try.func44 rfl rfl rfl ?_
 refine W.seq ?_
 refine W.region ?_
 refine RL.op _ (by decide) (opS_boxed (opv_boxA (cs := [(.int .i64 a0_0), (.int .i64 a0_1), (.bool a0_2), u0_3, u0_4]) rfl rfl)) ?_
 rintro _ hp1 ⟨bb1, rfl, MT_1, T_1⟩
 obtain ⟨X_1, S_1⟩ := Sep.turn0 (Mod.refl [] h0) (Sep.nil [] h0.size h0) MT_1 T_1
 refine RL.op _ (by decide) (opS_boxed (opv_box1 rfl rfl rfl)) ?_
 rintro _ hp2 ⟨bb2, rfl, MT_2, T_2⟩
 obtain ⟨X_2, S_2⟩ := Sep.turn0 X_1 S_1 MT_2 T_2
 refine RL.op _ (by decide) (opS_boxed (opv_alloc (cs := [(.int .i64 0), (.int .i64 0), (.bool false), (.slice none 0 0), (.slice none 0 0)]) rfl Try.zero33 rfl)) ?_
 rintro _ hp3 ⟨bb3, rfl, MT_3, T_3⟩
 obtain ⟨X_3, S_3⟩ := Sep.turn0 X_2 S_2 MT_3 T_3
 refine RL.opD (by decide) (opv_assign rfl rfl) ?_
 refine RL.nil ?_
 refine thnN ?_
 refine W.seq ?_
 refine W.seq ?_
 obtain ⟨x1, hy1, hp⟩ := Option.bind_eq_some_iff.1 hp
 refine W.cut (fun φ' h' => Fr.sub [(0, (.agg (List.toArray (α := Value) [(.int .i64 a0_0), (.int .i64 a0_1), (.bool a0_2), u0_3, u0_4]))), (1, (.int .i64 a1)), (2, u2), (3, (.pointer (some ⟨bb1, 0, none⟩))), (4, (.pointer (some ⟨bb2, 0, none⟩))), (6, (.pointer (some ⟨bb3, 0, none⟩))), (7, (.bool false)), (21, (.bool x1))] φ' ∧ Mod [] h0 h' ∧ Sep [] h0.size h' [boxO bb3 [(.int .i64 0), (.int .i64 0), (.bool false), (.slice none 0 0), (.slice none 0 0)], boxO bb2 [(.int .i64 a1)], boxO bb1 [(.int .i64 a0_0), (.int .i64 a0_1), (.bool a0_2), u0_3, u0_4]]) ?_ ?_
 ·refine W.region ?_
  refine RL.opD (by decide) (opv_loadA (us := [(.int .i64 a0_0), (.int .i64 a0_1), (.bool a0_2), u0_3, u0_4]) rfl Try.agg33 Try.size33 rfl (Sep.at (o := boxO bb1 [(.int .i64 a0_0), (.int .i64 a0_1), (.bool a0_2), u0_3, u0_4]) S_3 2 rfl) rfl rfl) ?_
  refine RL.opD (by decide) (opv_loadB rfl Try.one2 rfl (Sep.at (o := boxO bb2 [(.int .i64 a1)]) S_3 1 rfl) rfl) ?_
  obtain ⟨x2, hx2, hy1⟩ := Option.bind_eq_some_iff.1 hy1
  refine RL.op _ (by decide) (opv_call (cap := []) (impl_isValidCell_ok _ _ _ _ _ _ (SL.up (SL.mod g0_3 X_3 (Nat.le_refl _) nob) (Nat.le_trans (Nat.le_refl _) (Mod.size X_3))) _ _ (SL.up (SL.mod g0_4 X_3 (Nat.le_refl _) nob) (Nat.le_trans (Nat.le_refl _) (Mod.size X_3))) _ _ _ hx2) rfl rfl ⟨rfl, rfl, rfl, trivial⟩ Try.func109 rfl rfl) ?_
  rintro _ hp4 ⟨rfl, MT_4, T_4⟩
  obtain ⟨X_4, S_4⟩ := Sep.turn0 X_3 S_3 MT_4 T_4
  refine RL.opD (by decide) (opv_not rfl rfl) ?_
  refine RL.opD (by decide) (opv_move rfl rfl) ?_
  by_cases c1 : (!x2) = true
  ·rw [if_pos c1] at hy1
   refine RL.noT rfl rfl c1 (by decide) ?_
   refine RL.noT rfl rfl c1 (by decide) ?_
   refine RL.noT rfl rfl c1 (by decide) ?_
   refine RL.opD (by decide) (opv_pick rfl rfl (fun _ => rfl) (fun e => absurd (Eq.trans (Eq.symm e) c1) (by decide)) rfl) ?_
   refine RL.nil ?_
   have ey1 := Option.some.inj hy1
   subst ey1
   refine onlyN ?_
   exact ⟨⟨rfl, rfl, rfl, rfl, rfl, rfl, rfl, rfl, trivial⟩, X_4, (Sep.sel S_4 [0, 1, 2] (by decide))⟩
  ·rw [if_neg c1] at hy1
   have c1 := eq_false_of_ne_true c1
   refine RL.yesD rfl rfl c1 (by decide) (opv_move rfl rfl) ?_
   refine RL.yesD rfl rfl c1 (by decide) (opv_len rfl Try.underlying71 rfl (SL.mod g2 X_4 (Nat.le_refl _) nob)) ?_
   refine RL.yesD rfl rfl c1 (by decide) (opv_icmp rfl rfl rfl rfl) ?_
   refine RL.opD (by decide) (opv_pick rfl rfl (fun e => absurd (Eq.trans (Eq.symm e) c1) (by decide)) (fun _ => rfl) rfl) ?_
   refine RL.nil ?_
   have ey1 := Option.some.inj hy1
   subst ey1
   refine onlyN ?_
   exact ⟨⟨rfl, rfl, rfl, rfl, rfl, rfl, rfl, rfl, trivial⟩, X_4, (Sep.sel S_4 [0, 1, 2] (by decide))⟩
 rintro φ' hp5 ⟨hs1, X_5, S_5⟩
 refine thnN ?_
 refine W.sub hs1 ?_
 by_cases c2 : x1 = true
 ·rw [if_pos c2] at hp
  refine W.condT rfl c2 ?_
  refine W.seq ?_
  refine W.region ?_
  refine RL.opD (by decide) (opv_build (cs := [(.int .i64 0), (.int .i64 0), (.bool false), (.slice none 0 0), (.slice none 0 0)]) [] [] rfl Try.bd33 trivial rfl) ?_
  refine RL.op0 _ (opS_stored (cs := [(.int .i64 0), (.int .i64 0), (.bool false), (.slice none 0 0), (.slice none 0 0)]) (cs' := [(.int .i64 0), (.int .i64 0), (.bool false), (.slice none 0 0), (.slice none 0 0)]) (opv_storeA (us := [(.int .i64 0), (.int .i64 0), (.bool false), (.slice none 0 0), (.slice none 0 0)]) rfl Try.size33 rfl rfl (oneAll rfl (oneAll rfl (oneAll rfl (oneAll rfl (oneAll rfl rfl))))) (Sep.at (o := boxO bb3 [(.int .i64 0), (.int .i64 0), (.bool false), (.slice none 0 0), (.slice none 0 0)]) S_5 0 rfl) rfl rfl) (Sep.at (o := boxO bb3 [(.int .i64 0), (.int .i64 0), (.bool false), (.slice none 0 0), (.slice none 0 0)]) S_5 0 rfl)) ?_
  rintro _ hp6 ⟨rfl, MT_5, T_5⟩
  have S_6 : Sep [] h0.size hp5 ([boxO bb3 [(.int .i64 0), (.int .i64 0), (.bool false), (.slice none 0 0), (.slice none 0 0)]] ++ [boxO bb2 [(.int .i64 a1)], boxO bb1 [(.int .i64 a0_0), (.int .i64 a0_1), (.bool a0_2), u0_3, u0_4]]) := Sep.sel S_5 [0, 1, 2] (by decide)
  obtain ⟨X_6, S_7⟩ := Sep.turn X_5 S_6 MT_5 T_5
  refine RL.opD (by decide) (opv_assign rfl rfl) ?_
  refine RL.nil ?_
  refine thnN ?_
  refine W.ret ?_
  refine thnR ?_
  have S_8 : Sep [] h0.size hp6 [ownO (kF .f32) 29 (.slice none 0 0) ([] : List (Option Nat)), boxO bb3 [(.int .i64 0), (.int .i64 0), (.bool false), (.slice none 0 0), (.slice none 0 0)], boxO bb2 [(.int .i64 a1)], boxO bb1 [(.int .i64 a0_0), (.int .i64 a0_1), (.bool a0_2), u0_3, u0_4]] := Sep.addNil S_7
  have S_9 : Sep [] h0.size hp6 [ownO (kF .f32) 29 (.slice none 0 0) ([] : List (Option Nat)), ownO (kF .f32) 29 (.slice none 0 0) ([] : List (Option Nat)), boxO bb3 [(.int .i64 0), (.int .i64 0), (.bool false), (.slice none 0 0), (.slice none 0 0)], boxO bb2 [(.int .i64 a1)], boxO bb1 [(.int .i64 a0_0), (.int .i64 a0_1), (.bool a0_2), u0_3, u0_4]] := Sep.addNil S_8
  have er := Option.some.inj hp
  subst er
  exact Rt.cellA rfl rfl rfl Try.agg33 Try.size33 (Sep.at (o := boxO bb3 [(.int .i64 0), (.int .i64 0), (.bool false), (.slice none 0 0), (.slice none 0 0)]) S_9 2 rfl) rfl ⟨(.slice none 0 0), (.slice none 0 0), rfl, X_6, (Sep.sel S_9 [1, 0] (by decide))⟩
 ·rw [if_neg c2] at hp
  have c2 := eq_false_of_ne_true c2
  refine W.condF rfl c2 ?_
  refine W.skip ?_
  refine thnN ?_
  refine W.seq ?_
  refine W.region ?_
  refine RL.op _ (by decide) (opS_makeMap rfl) ?_
  rintro _ hp7 ⟨rm1, rfl, MT_6, T_6⟩
  obtain ⟨X_7, S_10⟩ := Sep.turn0 X_5 S_5 MT_6 T_6
  refine RL.op _ (by decide) (opS_boxed (opv_alloc (cs := [(.map none)]) rfl Try.zero134 rfl)) ?_
  rintro _ hp8 ⟨bb4, rfl, MT_7, T_7⟩
  obtain ⟨X_8, S_11⟩ := Sep.turn0 X_7 S_10 MT_7 T_7
  refine RL.op0 _ (opS_stored (cs := [(.map none)]) (cs' := [(.map (some rm1))]) (opv_storeB (k := 0) (cs := [(.map none)]) rfl Try.size134 rfl rfl rfl (Sep.at (o := boxO bb4 [(.map none)]) S_11 0 rfl) (Nat.le_of_ble_eq_true rfl)) (Sep.at (o := boxO bb4 [(.map none)]) S_11 0 rfl)) ?_
  rintro _ hp9 ⟨rfl, MT_8, T_8⟩
  have S_12 : Sep [] h0.size hp8 ([boxO bb4 [(.map none)]] ++ [mapO rm1 ([] : List (Int × Bool)), boxO bb3 [(.int .i64 0), (.int .i64 0), (.bool false), (.slice none 0 0), (.slice none 0 0)], boxO bb2 [(.int .i64 a1)], boxO bb1 [(.int .i64 a0_0), (.int .i64 a0_1), (.bool a0_2), u0_3, u0_4]]) := Sep.sel S_11 [0, 1, 2, 3, 4] (by decide)
  obtain ⟨X_9, S_13⟩ := Sep.turn X_8 S_12 MT_8 T_8
  refine RL.nil ?_
  refine thnN ?_
  refine W.seq ?_
  refine W.region ?_
  refine RL.opD (by decide) (opv_assign rfl rfl) ?_
  refine RL.nil ?_
  refine thnN ?_
  refine W.seq ?_
  refine W.seq ?_
  refine W.region ?_
  refine RL.opD (by decide) (opv_move rfl rfl) ?_
  refine RL.opD (by decide) (opv_len rfl Try.underlying71 rfl (SL.mod g2 X_9 (Nat.le_refl _) nob)) ?_
  refine RL.opD (by decide) (opv_move rfl rfl) ?_
  refine RL.nil ?_
  refine thnN ?_
  obtain ⟨y2, hy2, hp⟩ := Option.bind_eq_some_iff.1 hp
  refine W.cut (fun φ' h' => ∃ x7, ∃ x8, ∃ x9, ∃ x10, ∃ x11, y2 = .inl (x7, x8, x9, x10, x11) ∧ Fr.sub [(0, (.agg (List.toArray (α := Value) [(.int .i64 a0_0), (.int .i64 a0_1), (.bool a0_2), u0_3, u0_4]))), (1, (.int .i64 a1)), (2, u2), (3, (.pointer (some ⟨bb1, 0, none⟩))), (4, (.pointer (some ⟨bb2, 0, none⟩))), (6, (.pointer (some ⟨bb3, 0, none⟩))), (21, (.bool x1)), (8, (.pointer (some ⟨bb4, 0, none⟩))), (24, u2), (25, (.int .i64 (a2.length : Int))), (7, (.bool x7)), (9, (.int .i64 x8)), (26, (.int .i64 x9)), (27, (.bool x10))] φ' ∧ Mod [] h0 h' ∧ Sep [] h0.size h' [boxO bb4 [(.map (some rm1))], mapO rm1 x11, boxO bb3 [(.int .i64 0), (.int .i64 0), (.bool false), (.slice none 0 0), (.slice none 0 0)], boxO bb2 [(.int .i64 a1)], boxO bb1 [(.int .i64 a0_0), (.int .i64 a0_1), (.bool a0_2), u0_3, u0_4]]) ?_ ?_
  ·refine W.block ?_
   refine W.loopS (fun (s : (Bool × Int × Int × (List (Int × Bool)))) φ' h' => Fr.sub [(0, (.agg (List.toArray (α := Value) [(.int .i64 a0_0), (.int .i64 a0_1), (.bool a0_2), u0_3, u0_4]))), (1, (.int .i64 a1)), (2, u2), (3, (.pointer (some ⟨bb1, 0, none⟩))), (4, (.pointer (some ⟨bb2, 0, none⟩))), (6, (.pointer (some ⟨bb3, 0, none⟩))), (21, (.bool x1)), (8, (.pointer (some ⟨bb4, 0, none⟩))), (24, u2), (25, (.int .i64 (a2.length : Int))), (7, (.bool s.1)), (9, (.int .i64 s.2.1)), (26, (.int .i64 s.2.2.1))] φ' ∧ Mod [] h0 h' ∧ Sep [] h0.size h' [boxO bb4 [(.map (some rm1))], mapO rm1 s.2.2.2, boxO bb3 [(.int .i64 0), (.int .i64 0), (.bool false), (.slice none 0 0), (.slice none 0 0)], boxO bb2 [(.int .i64 a1)], boxO bb1 [(.int .i64 a0_0), (.int .i64 a0_1), (.bool a0_2), u0_3, u0_4]]) hy2 ⟨⟨rfl, rfl, rfl, rfl, rfl, rfl, rfl, rfl, rfl, rfl, rfl, rfl, rfl, trivial⟩, X_9, (Sep.sel S_13 [0, 1, 2, 3, 4] (by decide))⟩ ?_
   rintro ⟨x3, x4, x5, x6⟩ φ' hp10 o1 ⟨hs2, X_10, S_14⟩ ho1 hy1
   have hs2 : Fr.sub [(0, (.agg (List.toArray (α := Value) [(.int .i64 a0_0), (.int .i64 a0_1), (.bool a0_2), u0_3, u0_4]))), (1, (.int .i64 a1)), (2, u2), (3, (.pointer (some ⟨bb1, 0, none⟩))), (4, (.pointer (some ⟨bb2, 0, none⟩))), (6, (.pointer (some ⟨bb3, 0, none⟩))), (21, (.bool x1)), (8, (.pointer (some ⟨bb4, 0, none⟩))), (24, u2), (25, (.int .i64 (a2.length : Int))), (7, (.bool x3)), (9, (.int .i64 x4)), (26, (.int .i64 x5))] φ' := hs2
   have S_14 : Sep [] h0.size hp10 [boxO bb4 [(.map (some rm1))], mapO rm1 x6, boxO bb3 [(.int .i64 0), (.int .i64 0), (.bool false), (.slice none 0 0), (.slice none 0 0)], boxO bb2 [(.int .i64 a1)], boxO bb1 [(.int .i64 a0_0), (.int .i64 a0_1), (.bool a0_2), u0_3, u0_4]] := S_14
   have ho1 : impl_SlitSheet.s0 a0_1 a2 x3 x4 x5 x6 = some o1 := ho1
   unfold impl_SlitSheet.s0 at ho1
   refine W.sub hs2 ?_
   refine W.seq ?_
   refine W.region ?_
   refine RL.opD (by decide) (opv_icmp rfl rfl rfl rfl) ?_
   refine RL.nil ?_
   refine thnN ?_
   refine W.seq ?_
   by_cases c3 : (decide (x5 < (a2.length : Int))) = true
   ·rw [if_pos c3] at ho1
    refine W.condT rfl c3 ?_
    refine W.skip ?_
    refine thnN ?_
    refine W.seq ?_
    refine W.block ?_
    refine W.seq ?_
    refine W.region ?_
    obtain ⟨x12, hx12, ho1⟩ := Option.bind_eq_some_iff.1 ho1
    refine RL.op _ (by decide) (opv_index rfl Try.underlying71 (by rw [Try.size2]; rfl) rfl rfl (SL.mod g2 X_10 (Nat.le_refl _) nob) hx12) ?_
    rintro v1 _ ⟨fv1, rfl⟩
    refine RL.opD (by decide) (opv_loadI rfl Try.one2 rfl fv1 (SL.mod g2 X_10 (Nat.le_refl _) nob) hx12) ?_
    refine RL.opD (by decide) (opv_assign rfl rfl) ?_
    refine RL.nil ?_
    refine thnN ?_
    refine W.seq ?_
    refine W.seq ?_
    refine W.region ?_
    refine RL.opD (by decide) (opv_move rfl rfl) ?_
    refine RL.opD (by decide) (opv_move rfl rfl) ?_
    refine RL.opD (by decide) (opv_add rfl rfl rfl) ?_
    refine RL.opD (by decide) (opv_fieldAddr rfl Try.fo33_1 rfl) ?_
    refine RL.opD (by decide) (opv_loadB rfl Try.one2 rfl (Sep.at (o := boxO bb1 [(.int .i64 a0_0), (.int .i64 a0_1), (.bool a0_2), u0_3, u0_4]) S_14 4 rfl) rfl) ?_
    refine RL.opD (by decide) (opv_sub rfl rfl rfl) ?_
    obtain ⟨x13, hx13, ho1⟩ := Option.bind_eq_some_iff.1 ho1
    refine RL.op _ (by decide) (opv_call (cap := []) (impl_within_ok _ _ _ _ _ hx13) rfl rfl ⟨rfl, rfl, rfl, trivial⟩ Try.func71 rfl rfl) ?_
    rintro _ _ ⟨rfl, rfl⟩
    refine RL.opD (by decide) (opv_not rfl rfl) ?_
    refine RL.nil ?_
    refine thnN ?_
    by_cases c4 : (!x13) = true
    ·rw [if_pos c4] at ho1
     refine W.condT rfl c4 ?_
     refine W.seq ?_
     refine W.region ?_
     refine RL.opD (by decide) (opv_build (cs := [(.int .i64 0), (.int .i64 0), (.bool false), (.slice none 0 0), (.slice none 0 0)]) [] [] rfl Try.bd33 trivial rfl) ?_
     refine RL.op0 _ (opS_stored (cs := [(.int .i64 0), (.int .i64 0), (.bool false), (.slice none 0 0), (.slice none 0 0)]) (cs' := [(.int .i64 0), (.int .i64 0), (.bool false), (.slice none 0 0), (.slice none 0 0)]) (opv_storeA (us := [(.int .i64 0), (.int .i64 0), (.bool false), (.slice none 0 0), (.slice none 0 0)]) rfl Try.size33 rfl rfl (oneAll rfl (oneAll rfl (oneAll rfl (oneAll rfl (oneAll rfl rfl))))) (Sep.at (o := boxO bb3 [(.int .i64 0), (.int .i64 0), (.bool false), (.slice none 0 0), (.slice none 0 0)]) S_14 2 rfl) rfl rfl) (Sep.at (o := boxO bb3 [(.int .i64 0), (.int .i64 0), (.bool false), (.slice none 0 0), (.slice none 0 0)]) S_14 2 rfl)) ?_
     rintro _ hp11 ⟨rfl, MT_9, T_9⟩
     have S_15 : Sep [] h0.size hp10 ([boxO bb3 [(.int .i64 0), (.int .i64 0), (.bool false), (.slice none 0 0), (.slice none 0 0)]] ++ [boxO bb4 [(.map (some rm1))], mapO rm1 x6, boxO bb2 [(.int .i64 a1)], boxO bb1 [(.int .i64 a0_0), (.int .i64 a0_1), (.bool a0_2), u0_3, u0_4]]) := Sep.sel S_14 [2, 0, 1, 3, 4] (by decide)
     obtain ⟨X_11, S_16⟩ := Sep.turn X_10 S_15 MT_9 T_9
     refine RL.opD (by decide) (opv_assign rfl rfl) ?_
     refine RL.nil ?_
     refine thnN ?_
     refine W.ret ?_
     refine thnR ?_
     refine blkR ?_
     refine thnR ?_
     have eo1 := Option.some.inj ho1
     subst eo1
     have ey2 := hy1 _ rfl
     subst ey2
     try dsimp only at hp
     refine rndR ?_
     refine blkR ?_
     refine onlyR ?_
     refine thnR ?_
     have S_17 : Sep [] h0.size hp11 [ownO (kF .f32) 29 (.slice none 0 0) ([] : List (Option Nat)), boxO bb3 [(.int .i64 0), (.int .i64 0), (.bool false), (.slice none 0 0), (.slice none 0 0)], boxO bb4 [(.map (some rm1))], mapO rm1 x6, boxO bb2 [(.int .i64 a1)], boxO bb1 [(.int .i64 a0_0), (.int .i64 a0_1), (.bool a0_2), u0_3, u0_4]] := Sep.addNil S_16
     have S_18 : Sep [] h0.size hp11 [ownO (kF .f32) 29 (.slice none 0 0) ([] : List (Option Nat)), ownO (kF .f32) 29 (.slice none 0 0) ([] : List (Option Nat)), boxO bb3 [(.int .i64 0), (.int .i64 0), (.bool false), (.slice none 0 0), (.slice none 0 0)], boxO bb4 [(.map (some rm1))], mapO rm1 x6, boxO bb2 [(.int .i64 a1)], boxO bb1 [(.int .i64 a0_0), (.int .i64 a0_1), (.bool a0_2), u0_3, u0_4]] := Sep.addNil S_17
     have er := Option.some.inj hp
     subst er
     exact Rt.cellA rfl rfl rfl Try.agg33 Try.size33 (Sep.at (o := boxO bb3 [(.int .i64 0), (.int .i64 0), (.bool false), (.slice none 0 0), (.slice none 0 0)]) S_18 2 rfl) rfl ⟨(.slice none 0 0), (.slice none 0 0), rfl, X_11, (Sep.sel S_18 [1, 0] (by decide))⟩
    ·rw [if_neg c4] at ho1
     have c4 := eq_false_of_ne_true c4
     refine W.condF rfl c4 ?_
     refine W.skip ?_
     refine thnN ?_
     refine W.region ?_
     refine RL.opD (by decide) (opv_loadB rfl Try.one134 rfl (Sep.at (o := boxO bb4 [(.map (some rm1))]) S_14 0 rfl) rfl) ?_
     refine RL.opD (by decide) (opv_move rfl rfl) ?_
     refine RL.opD (by decide) (opv_move rfl rfl) ?_
     obtain ⟨c5, ho1⟩ := of_ite ho1
     refine RL.op0 _ (opS_mapUpdate rfl Try.underlying134 Try.underlying2 rfl rfl rfl c5 (Sep.at (o := mapO rm1 x6) S_14 1 rfl)) ?_
     rintro _ hp12 ⟨rfl, MT_10, T_10⟩
     have S_19 : Sep [] h0.size hp10 ([mapO rm1 x6] ++ [boxO bb4 [(.map (some rm1))], boxO bb3 [(.int .i64 0), (.int .i64 0), (.bool false), (.slice none 0 0), (.slice none 0 0)], boxO bb2 [(.int .i64 a1)], boxO bb1 [(.int .i64 a0_0), (.int .i64 a0_1), (.bool a0_2), u0_3, u0_4]]) := Sep.sel S_14 [1, 0, 2, 3, 4] (by decide)
     obtain ⟨X_12, S_20⟩ := Sep.turn X_10 S_19 MT_10 T_10
     refine RL.opD (by decide) (opv_assign rfl rfl) ?_
     refine RL.nil ?_
     refine blkN ?_
     refine thnN ?_
     refine W.region ?_
     refine RL.opD (by decide) (opv_add rfl rfl rfl) ?_
     refine RL.opD (by decide) (opv_move rfl rfl) ?_
     refine RL.nil ?_
     have eo1 := Option.some.inj ho1
     subst eo1
     refine rndN (s' := (x3, x12, IntKind.wrap .i64 (x5 + 1), x6 ++ [(x12, true)])) rfl ?_
     exact ⟨⟨rfl, rfl, rfl, rfl, rfl, rfl, rfl, rfl, rfl, rfl, rfl, rfl, rfl, trivial⟩, X_12, (Sep.sel S_20 [1, 0, 2, 3, 4] (by decide))⟩
   ·rw [if_neg c3] at ho1
    have c3 := eq_false_of_ne_true c3
    refine W.condF rfl c3 ?_
    refine W.exit ?_
    refine thnX ?_
    refine rndX ?_
    refine blkI ?_
    have eo1 := Option.some.inj ho1
    subst eo1
    have ey2 := hy1 _ rfl
    subst ey2
    refine onlyN ?_
    exact ⟨x3, x4, x5, decide (x5 < (a2.length : Int)), x6, rfl, ⟨rfl, rfl, rfl, rfl, rfl, rfl, rfl, rfl, rfl, rfl, rfl, rfl, rfl, rfl, trivial⟩, X_10, (Sep.sel S_14 [0, 1, 2, 3, 4] (by decide))⟩
  rintro φ' hp13 ⟨x7, x8, x9, x10, x11, rfl, hs3, X_13, S_21⟩
  try dsimp only at hp
  refine thnN ?_
  refine W.sub hs3 ?_
  refine W.seq ?_
  refine W.region ?_
  refine RL.opD (by decide) (opv_loadA (us := [(.int .i64 a0_0), (.int .i64 a0_1), (.bool a0_2), u0_3, u0_4]) rfl Try.agg33 Try.size33 rfl (Sep.at (o := boxO bb1 [(.int .i64 a0_0), (.int .i64 a0_1), (.bool a0_2), u0_3, u0_4]) S_21 4 rfl) rfl rfl) ?_
  obtain ⟨x14, hx14, hp⟩ := Option.bind_eq_some_iff.1 hp
  refine RL.op _ (by decide) (opv_call (cap := []) (impl_copySheet_ok _ _ _ _ _ _ (SL.up (SL.mod g0_3 X_13 (Nat.le_refl _) nob) (Nat.le_trans (Nat.le_refl _) (Mod.size X_13))) _ _ (SL.up (SL.mod g0_4 X_13 (Nat.le_refl _) nob) (Nat.le_trans (Nat.le_refl _) (Mod.size X_13))) _ hx14) rfl rfl ⟨rfl, trivial⟩ Try.func100 rfl rfl) ?_
  rintro _ hp14 ⟨v2, v3, rfl, MT_11, T_11⟩
  obtain ⟨X_14, S_22⟩ := Sep.turn0 X_13 S_21 MT_11 T_11
  refine RL.op _ (by decide) (opS_boxed (opv_alloc (cs := [(.int .i64 0), (.int .i64 0), (.bool false), (.slice none 0 0), (.slice none 0 0)]) rfl Try.zero33 rfl)) ?_
  rintro _ hp15 ⟨bb5, rfl, MT_12, T_12⟩
  obtain ⟨X_15, S_23⟩ := Sep.turn0 X_14 S_22 MT_12 T_12
  refine RL.op0 _ (opS_stored (cs := [(.int .i64 0), (.int .i64 0), (.bool false), (.slice none 0 0), (.slice none 0 0)]) (cs' := [(.int .i64 x14.1), (.int .i64 x14.2.1), (.bool x14.2.2.1), v2, v3]) (opv_storeA (us := [(.int .i64 x14.1), (.int .i64 x14.2.1), (.bool x14.2.2.1), v2, v3]) rfl Try.size33 rfl rfl (oneAll rfl (oneAll rfl (oneAll rfl (oneAll (ownO.one (Sep.at (o := ownO (kF .f32) 29 v2 x14.2.2.2.1) S_23 1 rfl)) (oneAll (ownO.one (Sep.at (o := ownO (kF .f32) 29 v3 x14.2.2.2.2) S_23 2 rfl)) rfl))))) (Sep.at (o := boxO bb5 [(.int .i64 0), (.int .i64 0), (.bool false), (.slice none 0 0), (.slice none 0 0)]) S_23 0 rfl) rfl rfl) (Sep.at (o := boxO bb5 [(.int .i64 0), (.int .i64 0), (.bool false), (.slice none 0 0), (.slice none 0 0)]) S_23 0 rfl)) ?_
  rintro _ hp16 ⟨rfl, MT_13, T_13⟩
  have S_24 : Sep [] h0.size hp15 ([boxO bb5 [(.int .i64 0), (.int .i64 0), (.bool false), (.slice none 0 0), (.slice none 0 0)]] ++ [ownO (kF .f32) 29 v2 x14.2.2.2.1, ownO (kF .f32) 29 v3 x14.2.2.2.2, boxO bb4 [(.map (some rm1))], mapO rm1 x11, boxO bb3 [(.int .i64 0), (.int .i64 0), (.bool false), (.slice none 0 0), (.slice none 0 0)], boxO bb2 [(.int .i64 a1)], boxO bb1 [(.int .i64 a0_0), (.int .i64 a0_1), (.bool a0_2), u0_3, u0_4]]) := Sep.sel S_23 [0, 1, 2, 3, 4, 5, 6, 7] (by decide)
  obtain ⟨X_16, S_25⟩ := Sep.turn X_15 S_24 MT_13 T_13
  refine RL.nil ?_
  refine thnN ?_
  refine W.seq ?_
  refine W.region ?_
  refine RL.opD (by decide) (opv_loadA (us := [(.int .i64 a0_0), (.int .i64 a0_1), (.bool a0_2), u0_3, u0_4]) rfl Try.agg33 Try.size33 rfl (Sep.at (o := boxO bb1 [(.int .i64 a0_0), (.int .i64 a0_1), (.bool a0_2), u0_3, u0_4]) S_25 7 rfl) rfl rfl) ?_
  refine RL.opD (by decide) (opv_makeFunc (vs := [(.pointer (some ⟨bb2, 0, none⟩)), (.pointer (some ⟨bb4, 0, none⟩)), (.pointer (some ⟨bb5, 0, none⟩))]) rfl ⟨rfl, rfl, rfl, trivial⟩) ?_
  obtain ⟨x15, hx15, hp⟩ := Option.bind_eq_some_iff.1 hp
  have S_27 : Sep [] h0.size hp16 [boxO bb2 [(.int .i64 a1)], boxO bb4 [(.map (some rm1))], mapO rm1 x11, boxO bb5 [(.int .i64 x14.1), (.int .i64 x14.2.1), (.bool x14.2.2.1), v2, v3], ownO (kF .f32) 29 v2 x14.2.2.2.1, ownO (kF .f32) 29 v3 x14.2.2.2.2] := Sep.sel S_25 [6, 3, 4, 0, 1, 2] (by decide)
  have S_26 : Sep [some bb2, some bb4, some rm1, some bb5, v2.ownBlock, v3.ownBlock] hp16.size hp16 [boxO bb2 [(.int .i64 a1)], boxO bb4 [(.map (some rm1))], mapO rm1 x11, boxO bb5 [(.int .i64 x14.1), (.int .i64 x14.2.1), (.bool x14.2.2.1), v2, v3], ownO (kF .f32) 29 v2 x14.2.2.2.1, ownO (kF .f32) 29 v3 x14.2.2.2.2] := Sep.own S_27 _
  refine RL.op _ (by decide) (opv_call (cap := []) (impl_Sheet_each__impl_SlitSheet_1_ok _ h0.size (Nat.le_trans (Nat.le_refl _) (Mod.size X_16)) _ _ _ _ _ (SL.mod g0_3 X_16 (Nat.le_refl _) nob) _ _ (SL.mod g0_4 X_16 (Nat.le_refl _) nob) _ _ _ _ _ _ _ _ _ _ _ _ _ S_26 (Sep.ge (L := [boxO bb2 [(.int .i64 a1)], boxO bb4 [(.map (some rm1))], mapO rm1 x11, boxO bb5 [(.int .i64 x14.1), (.int .i64 x14.2.1), (.bool x14.2.2.1), v2, v3], ownO (kF .f32) 29 v2 x14.2.2.2.1, ownO (kF .f32) 29 v3 x14.2.2.2.2]) S_27 (Nat.le_refl _) nob) _ hx15) rfl rfl ⟨rfl, rfl, trivial⟩ Try.func101 rfl rfl) ?_
  rintro _ hp17 ⟨rfl, MT_14, T_14⟩
  have S_28 : Sep [] h0.size hp16 ([boxO bb2 [(.int .i64 a1)], boxO bb4 [(.map (some rm1))], mapO rm1 x11, boxO bb5 [(.int .i64 x14.1), (.int .i64 x14.2.1), (.bool x14.2.2.1), v2, v3], ownO (kF .f32) 29 v2 x14.2.2.2.1, ownO (kF .f32) 29 v3 x14.2.2.2.2] ++ [boxO bb3 [(.int .i64 0), (.int .i64 0), (.bool false), (.slice none 0 0), (.slice none 0 0)], boxO bb1 [(.int .i64 a0_0), (.int .i64 a0_1), (.bool a0_2), u0_3, u0_4]]) := Sep.sel S_25 [6, 3, 4, 0, 1, 2, 5, 7] (by decide)
  obtain ⟨X_17, S_29⟩ := Sep.turn X_16 S_28 MT_14 T_14
  refine RL.nil ?_
  refine thnN ?_
  refine W.seq ?_
  refine W.region ?_
  refine RL.opD (by decide) (opv_loadA (us := [(.int .i64 x15.2.2.1), (.int .i64 x15.2.2.2.1), (.bool x15.2.2.2.2.1), v2, v3]) rfl Try.agg33 Try.size33 rfl (Sep.at (o := boxO bb5 [(.int .i64 x15.2.2.1), (.int .i64 x15.2.2.2.1), (.bool x15.2.2.2.2.1), v2, v3]) S_29 3 rfl) rfl rfl) ?_
  refine RL.op0 _ (opS_stored (cs := [(.int .i64 0), (.int .i64 0), (.bool false), (.slice none 0 0), (.slice none 0 0)]) (cs' := [(.int .i64 x15.2.2.1), (.int .i64 x15.2.2.2.1), (.bool x15.2.2.2.2.1), v2, v3]) (opv_storeA (us := [(.int .i64 x15.2.2.1), (.int .i64 x15.2.2.2.1), (.bool x15.2.2.2.2.1), v2, v3]) rfl Try.size33 rfl rfl (oneAll rfl (oneAll rfl (oneAll rfl (oneAll (ownO.one (Sep.at (o := ownO (kF .f32) 29 v2 x15.2.2.2.2.2.1) S_29 4 rfl)) (oneAll (ownO.one (Sep.at (o := ownO (kF .f32) 29 v3 x15.2.2.2.2.2.2) S_29 5 rfl)) rfl))))) (Sep.at (o := boxO bb3 [(.int .i64 0), (.int .i64 0), (.bool false), (.slice none 0 0), (.slice none 0 0)]) S_29 6 rfl) rfl rfl) (Sep.at (o := boxO bb3 [(.int .i64 0), (.int .i64 0), (.bool false), (.slice none 0 0), (.slice none 0 0)]) S_29 6 rfl)) ?_
  rintro _ hp18 ⟨rfl, MT_15, T_15⟩
  have S_30 : Sep [] h0.size hp17 ([boxO bb3 [(.int .i64 0), (.int .i64 0), (.bool false), (.slice none 0 0), (.slice none 0 0)]] ++ [boxO bb2 [(.int .i64 x15.1)], boxO bb4 [(.map (some rm1))], mapO rm1 x15.2.1, boxO bb5 [(.int .i64 x15.2.2.1), (.int .i64 x15.2.2.2.1), (.bool x15.2.2.2.2.1), v2, v3], ownO (kF .f32) 29 v2 x15.2.2.2.2.2.1, ownO (kF .f32) 29 v3 x15.2.2.2.2.2.2, boxO bb1 [(.int .i64 a0_0), (.int .i64 a0_1), (.bool a0_2), u0_3, u0_4]]) := Sep.sel S_29 [6, 0, 1, 2, 3, 4, 5, 7] (by decide)
  obtain ⟨X_18, S_31⟩ := Sep.turn X_17 S_30 MT_15 T_15
  refine RL.opD (by decide) (opv_assign rfl rfl) ?_
  refine RL.nil ?_
  refine thnN ?_
  refine W.ret ?_
  have er := Option.some.inj hp
  subst er
  exact Rt.cellA rfl rfl rfl Try.agg33 Try.size33 (Sep.at (o := boxO bb3 [(.int .i64 x15.2.2.1), (.int .i64 x15.2.2.2.1), (.bool x15.2.2.2.2.1), v2, v3]) S_31 0 rfl) rfl ⟨v2, v3, rfl, X_18, (Sep.sel S_31 [5, 6] (by decide))⟩

end Go.H
