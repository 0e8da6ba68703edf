/- Functions of the program: what each computes, as a plain function, and that the call comes to it. Written by a program (wip/gen). -/
import Derived.Test.YtjlnfficehomhaaGreatDoorGBase
import Derived.Test.YtjlnfficehomhaaGreatDoorGSheet
import Derived.Test.YtjlnfficehomhaaGreatDoorLibB
import Derived.Test.YtjlnfficehomhaaGreatDoorProg
import Derived.KernelRfl
set_option linter.unusedVariables false
namespace Go.H
open Go Go.Proofs



noncomputable def spec_l01Check.s0 (a1 : ByteArray) (x1 : Int) (x2 : Int) : Option ((Int × Int) ⊕ (Int × Int × Bool)) :=
 (if (decide (x2 < (a1.size : Int))) = true then ((sidx a1 x2).bind fun (x6 : Int) => some (.inl (Int.tmod (IntKind.wrap .i64 ((IntKind.wrap .i64 ((IntKind.wrap .i64 (677 * x1)) + (IntKind.wrap .i64 x6))) + 31)) 65003, IntKind.wrap .i64 (x2 + 1)))) else some (.inr (x1, x2, decide (x2 < (a1.size : Int)))))

noncomputable def spec_l01Check (a0 : Int) (a1 : ByteArray) : Option Int :=
 ((loopF (fun (s : (Int × Int)) => spec_l01Check.s0 a1 s.1 s.2) (a0, 0)).bind fun (⟨x3, x4, x5⟩ : (Int × Int × Bool)) => some x3)

noncomputable def spec_CheckOf (a0 : Int) (a1 : ByteArray) : Option (Int × Bool) :=
 ((spec_l00In a0 0 65002).bind fun (x1 : Bool) => (if (!x1) = true then some (0, false) else ((spec_l01Check a0 a1).bind fun (x2 : Int) => some (x2, true))))

noncomputable def impl_CheckOf.s0 (a1 : ByteArray) (x2 : Int) (x3 : Int) : Option ((Int × Int) ⊕ (Int × Int × Bool)) :=
 (if (decide (x3 < (a1.size : Int))) = true then ((sidx a1 x3).bind fun (x7 : Int) => some (.inl (Int.tmod (IntKind.wrap .i64 ((IntKind.wrap .i64 ((IntKind.wrap .i64 (677 * x2)) + (IntKind.wrap .i64 x7))) + 31)) 65003, IntKind.wrap .i64 (x3 + 1)))) else some (.inr (x2, x3, decide (x3 < (a1.size : Int)))))

noncomputable def impl_CheckOf (a0 : Int) (a1 : ByteArray) : Option (Int × Bool) :=
 ((impl_within a0 0 65002).bind fun (x1 : Bool) => (if (!x1) = true then some (0, false) else ((loopF (fun (s : (Int × Int)) => impl_CheckOf.s0 a1 s.1 s.2) (a0, 0)).bind fun (⟨x4, x5, x6⟩ : (Int × Int × Bool)) => some (x4, true))))

noncomputable def impl_BitsOf (a0 : Option Nat) : Option Int :=
 (if (fcmp .neq .f32 a0 a0) = true then some 2143289344 else ((fbits a0).bind fun (x1 : Int) => some (IntKind.wrap .i64 x1)))

set_option maxRecDepth 20000 in
theorem spec_l01Check_ok (h0 : Heap) (a0 : Int) (a1 : ByteArray) (r : Int) (hp : spec_l01Check a0 a1 = some r) : CallsH Tryz.prog 32 ([(.int .i64 a0), (.string a1)].toArray ++ [].toArray) h0 (fun v h' => v = (.int .i64 r) ∧ h0 = h') := by
 unfold spec_l01Check at hp
 refine callsH_of_W (l := [(.int .i64 a0), (.string a1)]) (cap := []) 22 Tryz.func32 rfl rfl rfl ?_
 refine W.seq ?_
 refine W.region ?_
 refine RL.opD (by decide) (opv_assign rfl rfl) ?_
 refine RL.nil ?_
 refine thnN ?_
 refine W.seq ?_
 refine W.seq ?_
 refine W.region ?_
 refine RL.opD (by decide) (opv_assign rfl rfl) ?_
 refine RL.nil ?_
 refine thnN ?_
 obtain ⟨y1, hy1, hp⟩ := Option.bind_eq_some_iff.1 hp
 refine W.cut (fun φ' h' => ∃ x3, ∃ x4, ∃ x5, y1 = (x3, x4, x5) ∧ Fr.sub [(1, (.string a1)), (4, (.int .i64 0)), (0, (.int .i64 x3)), (5, (.int .i64 x4)), (9, (.bool x5))] φ' ∧ h0 = h') ?_ ?_
 ·refine W.block ?_
  refine W.loopS (fun (s : (Int × Int)) φ' h' => Fr.sub [(1, (.string a1)), (4, (.int .i64 0)), (0, (.int .i64 s.1)), (5, (.int .i64 s.2))] φ' ∧ h0 = h') hy1 ⟨⟨rfl, rfl, rfl, rfl, trivial⟩, rfl⟩ ?_
  rintro ⟨x1, x2⟩ φ' _ o1 ⟨hs1, rfl⟩ ho1 hy1
  have hs1 : Fr.sub [(1, (.string a1)), (4, (.int .i64 0)), (0, (.int .i64 x1)), (5, (.int .i64 x2))] φ' := hs1
  have ho1 : spec_l01Check.s0 a1 x1 x2 = some o1 := ho1
  unfold spec_l01Check.s0 at ho1
  refine W.sub hs1 ?_
  refine W.seq ?_
  refine W.seq ?_
  refine W.region ?_
  refine RL.opD (by decide) (opv_move rfl rfl) ?_
  refine RL.opD (by decide) (opv_move rfl rfl) ?_
  refine RL.opD (by decide) (opv_lenS rfl Tryz.underlying9 rfl) ?_
  refine RL.opD (by decide) (opv_icmp rfl rfl rfl rfl) ?_
  refine RL.nil ?_
  refine thnN ?_
  by_cases c1 : (decide (x2 < (a1.size : Int))) = true
  ·rw [if_pos c1] at ho1
   refine W.condT rfl c1 ?_
   refine W.skip ?_
   refine thnN ?_
   refine W.seq ?_
   refine W.block ?_
   refine W.region ?_
   refine RL.opD (by decide) (opv_move rfl rfl) ?_
   refine RL.opD (by decide) (opv_mul rfl rfl rfl) ?_
   refine RL.opD (by decide) (opv_move rfl rfl) ?_
   refine RL.opD (by decide) (opv_move rfl rfl) ?_
   obtain ⟨x6, hx6, ho1⟩ := Option.bind_eq_some_iff.1 ho1
   refine RL.opD (by decide) (opv_indexS rfl Tryz.underlying9 rfl rfl hx6) ?_
   refine RL.opD (by decide) (opv_i2i rfl (by rw [Tryz.underlying5]; rfl) Tryz.underlying2 rfl) ?_
   refine RL.opD (by decide) (opv_add rfl rfl rfl) ?_
   refine RL.opD (by decide) (opv_add rfl rfl rfl) ?_
   refine RL.opD (by decide) (opv_rem rfl (by decide) rfl rfl) ?_
   refine RL.opD (by decide) (opv_assign rfl rfl) ?_
   refine RL.nil ?_
   refine blkN ?_
   refine thnN ?_
   refine W.region ?_
   refine RL.opD (by decide) (opv_move rfl rfl) ?_
   refine RL.opD (by decide) (opv_add rfl rfl rfl) ?_
   refine RL.opD (by decide) (opv_assign rfl rfl) ?_
   refine RL.nil ?_
   have eo1 := Option.some.inj ho1
   subst eo1
   refine rndN (s' := (Int.tmod (IntKind.wrap .i64 ((IntKind.wrap .i64 ((IntKind.wrap .i64 (677 * x1)) + (IntKind.wrap .i64 x6))) + 31)) 65003, IntKind.wrap .i64 (x2 + 1))) rfl ?_
   exact ⟨⟨rfl, rfl, rfl, rfl, trivial⟩, rfl⟩
  ·rw [if_neg c1] at ho1
   have c1 := eq_false_of_ne_true c1
   refine W.condF rfl c1 ?_
   refine W.exit ?_
   refine thnX ?_
   refine rndX ?_
   refine blkI ?_
   have eo1 := Option.some.inj ho1
   subst eo1
   have ey1 := hy1 _ rfl
   subst ey1
   refine onlyN ?_
   exact ⟨x1, x2, decide (x2 < (a1.size : Int)), rfl, ⟨rfl, rfl, rfl, rfl, rfl, trivial⟩, rfl⟩
 rintro φ' _ ⟨x3, x4, x5, rfl, hs2, rfl⟩
 try dsimp only at hp
 refine thnN ?_
 refine W.sub hs2 ?_
 refine W.seq ?_
 refine W.region ?_
 refine RL.opD (by decide) (opv_move rfl rfl) ?_
 refine RL.opD (by decide) (opv_assign rfl rfl) ?_
 refine RL.nil ?_
 refine thnN ?_
 refine W.ret ?_
 have er := Option.some.inj hp
 subst er
 exact Rt.one rfl rfl ⟨rfl, rfl⟩

set_option maxRecDepth 20000 in
theorem spec_CheckOf_ok (h0 : Heap) (a0 : Int) (a1 : ByteArray) (r : (Int × Bool)) (hp : spec_CheckOf a0 a1 = some r) : CallsH Tryz.prog 14 ([(.int .i64 a0), (.string a1)].toArray ++ [].toArray) h0 (fun v h' => v = (.tuple (List.toArray (α := Value) [(.int .i64 r.1), (.bool r.2)])) ∧ h0 = h') := by
 unfold spec_CheckOf at hp
 refine callsH_of_W (l := [(.int .i64 a0), (.string a1)]) (cap := []) 12 Tryz.func14 rfl rfl rfl ?_
 refine W.seq ?_
 refine W.region ?_
 refine RL.opD (by decide) (opv_assign rfl rfl) ?_
 refine RL.opD (by decide) (opv_assign rfl rfl) ?_
 refine RL.nil ?_
 refine thnN ?_
 refine W.seq ?_
 refine W.seq ?_
 refine W.region ?_
 refine RL.opD (by decide) (opv_move rfl rfl) ?_
 obtain ⟨x1, hx1, hp⟩ := Option.bind_eq_some_iff.1 hp
 refine RL.op _ (by decide) (opv_call (cap := []) (spec_l00In_ok _ _ _ _ _ hx1) rfl rfl ⟨rfl, rfl, rfl, trivial⟩ Tryz.func31 rfl rfl) ?_
 rintro _ _ ⟨rfl, rfl⟩
 refine RL.opD (by decide) (opv_not rfl rfl) ?_
 refine RL.nil ?_
 refine thnN ?_
 by_cases c1 : (!x1) = true
 ·rw [if_pos c1] at hp
  refine W.condT rfl c1 ?_
  refine W.seq ?_
  refine W.region ?_
  refine RL.opD (by decide) (opv_assign rfl rfl) ?_
  refine RL.opD (by decide) (opv_assign rfl rfl) ?_
  refine RL.nil ?_
  refine thnN ?_
  refine W.ret ?_
  refine thnR ?_
  have er := Option.some.inj hp
  subst er
  exact Rt.two rfl rfl rfl ⟨rfl, rfl⟩
 ·rw [if_neg c1] at hp
  have c1 := eq_false_of_ne_true c1
  refine W.condF rfl c1 ?_
  refine W.skip ?_
  refine thnN ?_
  refine W.seq ?_
  refine W.region ?_
  refine RL.opD (by decide) (opv_move rfl rfl) ?_
  refine RL.opD (by decide) (opv_move rfl rfl) ?_
  obtain ⟨x2, hx2, hp⟩ := Option.bind_eq_some_iff.1 hp
  refine RL.op _ (by decide) (opv_call (cap := []) (spec_l01Check_ok _ _ _ _ hx2) rfl rfl ⟨rfl, rfl, trivial⟩ Tryz.func32 rfl rfl) ?_
  rintro _ _ ⟨rfl, rfl⟩
  refine RL.opD (by decide) (opv_assign rfl rfl) ?_
  refine RL.opD (by decide) (opv_assign rfl rfl) ?_
  refine RL.nil ?_
  refine thnN ?_
  refine W.ret ?_
  have er := Option.some.inj hp
  subst er
  exact Rt.two rfl rfl rfl ⟨rfl, rfl⟩

set_option maxRecDepth 20000 in
theorem impl_CheckOf_ok (h0 : Heap) (a0 : Int) (a1 : ByteArray) (r : (Int × Bool)) (hp : impl_CheckOf a0 a1 = some r) : CallsH Tryz.prog 26 ([(.int .i64 a0), (.string a1)].toArray ++ [].toArray) h0 (fun v h' => v = (.tuple (List.toArray (α := Value) [(.int .i64 r.1), (.bool r.2)])) ∧ h0 = h') := by
 unfold impl_CheckOf at hp
 refine callsH_of_W (l := [(.int .i64 a0), (.string a1)]) (cap := []) 26 Tryz.func26 rfl rfl rfl ?_
 refine W.seq ?_
 refine W.region ?_
 refine RL.opD (by decide) (opv_assign rfl rfl) ?_
 refine RL.opD (by decide) (opv_assign rfl rfl) ?_
 refine RL.nil ?_
 refine thnN ?_
 refine W.seq ?_
 refine W.seq ?_
 refine W.region ?_
 refine RL.opD (by decide) (opv_move rfl rfl) ?_
 obtain ⟨x1, hx1, hp⟩ := Option.bind_eq_some_iff.1 hp
 refine RL.op _ (by decide) (opv_call (cap := []) (impl_within_ok _ _ _ _ _ hx1) rfl rfl ⟨rfl, rfl, rfl, trivial⟩ Tryz.func22 rfl rfl) ?_
 rintro _ _ ⟨rfl, rfl⟩
 refine RL.opD (by decide) (opv_not rfl rfl) ?_
 refine RL.nil ?_
 refine thnN ?_
 by_cases c1 : (!x1) = true
 ·rw [if_pos c1] at hp
  refine W.condT rfl c1 ?_
  refine W.seq ?_
  refine W.region ?_
  refine RL.opD (by decide) (opv_assign rfl rfl) ?_
  refine RL.opD (by decide) (opv_assign rfl rfl) ?_
  refine RL.nil ?_
  refine thnN ?_
  refine W.ret ?_
  refine thnR ?_
  have er := Option.some.inj hp
  subst er
  exact Rt.two rfl rfl rfl ⟨rfl, rfl⟩
 ·rw [if_neg c1] at hp
  have c1 := eq_false_of_ne_true c1
  refine W.condF rfl c1 ?_
  refine W.skip ?_
  refine thnN ?_
  refine W.seq ?_
  refine W.seq ?_
  refine W.region ?_
  refine RL.opD (by decide) (opv_move rfl rfl) ?_
  refine RL.opD (by decide) (opv_lenS rfl Tryz.underlying9 rfl) ?_
  refine RL.opD (by decide) (opv_move rfl rfl) ?_
  refine RL.nil ?_
  refine thnN ?_
  obtain ⟨y1, hy1, hp⟩ := Option.bind_eq_some_iff.1 hp
  refine W.cut (fun φ' h' => ∃ x4, ∃ x5, ∃ x6, y1 = (x4, x5, x6) ∧ Fr.sub [(1, (.string a1)), (4, (.int .i64 0)), (5, (.bool false)), (9, (.bool (!x1))), (11, (.int .i64 (a1.size : Int))), (0, (.int .i64 x4)), (12, (.int .i64 x5)), (13, (.bool x6))] φ' ∧ h0 = h') ?_ ?_
  ·refine W.block ?_
   refine W.loopS (fun (s : (Int × Int)) φ' h' => Fr.sub [(1, (.string a1)), (4, (.int .i64 0)), (5, (.bool false)), (9, (.bool (!x1))), (11, (.int .i64 (a1.size : Int))), (0, (.int .i64 s.1)), (12, (.int .i64 s.2))] φ' ∧ h0 = h') hy1 ⟨⟨rfl, rfl, rfl, rfl, rfl, rfl, rfl, trivial⟩, rfl⟩ ?_
   rintro ⟨x2, x3⟩ φ' _ o1 ⟨hs1, rfl⟩ ho1 hy1
   have hs1 : Fr.sub [(1, (.string a1)), (4, (.int .i64 0)), (5, (.bool false)), (9, (.bool (!x1))), (11, (.int .i64 (a1.size : Int))), (0, (.int .i64 x2)), (12, (.int .i64 x3))] φ' := hs1
   have ho1 : impl_CheckOf.s0 a1 x2 x3 = some o1 := ho1
   unfold impl_CheckOf.s0 at ho1
   refine W.sub hs1 ?_
   refine W.seq ?_
   refine W.region ?_
   refine RL.opD (by decide) (opv_icmp rfl rfl rfl rfl) ?_
   refine RL.nil ?_
   refine thnN ?_
   refine W.seq ?_
   by_cases c2 : (decide (x3 < (a1.size : Int))) = true
   ·rw [if_pos c2] at ho1
    refine W.condT rfl c2 ?_
    refine W.skip ?_
    refine thnN ?_
    refine W.seq ?_
    refine W.block ?_
    refine W.seq ?_
    refine W.region ?_
    refine RL.opD (by decide) (opv_move rfl rfl) ?_
    refine RL.opD (by decide) (opv_assign rfl rfl) ?_
    refine RL.nil ?_
    refine thnN ?_
    refine W.region ?_
    refine RL.opD (by decide) (opv_move rfl rfl) ?_
    refine RL.opD (by decide) (opv_mul rfl rfl rfl) ?_
    refine RL.opD (by decide) (opv_move rfl rfl) ?_
    refine RL.opD (by decide) (opv_move rfl rfl) ?_
    obtain ⟨x7, hx7, ho1⟩ := Option.bind_eq_some_iff.1 ho1
    refine RL.opD (by decide) (opv_indexS rfl Tryz.underlying9 rfl rfl hx7) ?_
    refine RL.opD (by decide) (opv_i2i rfl (by rw [Tryz.underlying5]; rfl) Tryz.underlying2 rfl) ?_
    refine RL.opD (by decide) (opv_add rfl rfl rfl) ?_
    refine RL.opD (by decide) (opv_add rfl rfl rfl) ?_
    refine RL.opD (by decide) (opv_rem rfl (by decide) rfl rfl) ?_
    refine RL.opD (by decide) (opv_assign rfl rfl) ?_
    refine RL.nil ?_
    refine blkN ?_
    refine thnN ?_
    refine W.region ?_
    refine RL.opD (by decide) (opv_add rfl rfl rfl) ?_
    refine RL.opD (by decide) (opv_move rfl rfl) ?_
    refine RL.nil ?_
    have eo1 := Option.some.inj ho1
    subst eo1
    refine rndN (s' := (Int.tmod (IntKind.wrap .i64 ((IntKind.wrap .i64 ((IntKind.wrap .i64 (677 * x2)) + (IntKind.wrap .i64 x7))) + 31)) 65003, IntKind.wrap .i64 (x3 + 1))) rfl ?_
    exact ⟨⟨rfl, rfl, rfl, rfl, rfl, rfl, rfl, trivial⟩, rfl⟩
   ·rw [if_neg c2] at ho1
    have c2 := eq_false_of_ne_true c2
    refine W.condF rfl c2 ?_
    refine W.exit ?_
    refine thnX ?_
    refine rndX ?_
    refine blkI ?_
    have eo1 := Option.some.inj ho1
    subst eo1
    have ey1 := hy1 _ rfl
    subst ey1
    refine onlyN ?_
    exact ⟨x2, x3, decide (x3 < (a1.size : Int)), rfl, ⟨rfl, rfl, rfl, rfl, rfl, rfl, rfl, rfl, trivial⟩, rfl⟩
  rintro φ' _ ⟨x4, x5, x6, rfl, hs2, rfl⟩
  try dsimp only at hp
  refine thnN ?_
  refine W.sub hs2 ?_
  refine W.seq ?_
  refine W.region ?_
  refine RL.opD (by decide) (opv_move rfl rfl) ?_
  refine RL.opD (by decide) (opv_assign rfl rfl) ?_
  refine RL.opD (by decide) (opv_assign rfl rfl) ?_
  refine RL.nil ?_
  refine thnN ?_
  refine W.ret ?_
  have er := Option.some.inj hp
  subst er
  exact Rt.two rfl rfl rfl ⟨rfl, rfl⟩

set_option maxRecDepth 20000 in
theorem impl_BitsOf_ok (h0 : Heap) (u0 : Value) (a0 : Option Nat) (g0 : IsF .f32 u0 a0) (r : Int) (hp : impl_BitsOf a0 = some r) : CallsH Tryz.prog 50 ([u0].toArray ++ [].toArray) h0 (fun v h' => v = (.int .i64 r) ∧ h0 = h') := by
 unfold impl_BitsOf at hp
 refine callsH_of_W (l := [u0]) (cap := []) 9 Tryz.func50 rfl rfl rfl ?_
 refine W.seq ?_
 refine W.region ?_
 refine RL.opD (by decide) (opv_assign rfl rfl) ?_
 refine RL.nil ?_
 refine thnN ?_
 refine W.seq ?_
 refine W.seq ?_
 refine W.region ?_
 refine RL.opD (by decide) (opv_move rfl rfl) ?_
 refine RL.opD (by decide) (opv_move rfl rfl) ?_
 refine RL.opD (by decide) (opv_fcmp rfl rfl rfl rfl g0 g0) ?_
 refine RL.nil ?_
 refine thnN ?_
 by_cases c1 : (fcmp .neq .f32 a0 a0) = true
 ·rw [if_pos c1] at hp
  refine W.condT rfl c1 ?_
  refine W.seq ?_
  refine W.region ?_
  refine RL.opD (by decide) (opv_assign rfl rfl) ?_
  refine RL.nil ?_
  refine thnN ?_
  refine W.ret ?_
  refine thnR ?_
  have er := Option.some.inj hp
  subst er
  exact Rt.one rfl rfl ⟨rfl, rfl⟩
 ·rw [if_neg c1] at hp
  have c1 := eq_false_of_ne_true c1
  refine W.condF rfl c1 ?_
  refine W.skip ?_
  refine thnN ?_
  refine W.seq ?_
  refine W.region ?_
  refine RL.opD (by decide) (opv_move rfl rfl) ?_
  obtain ⟨x1, hx1, hp⟩ := Option.bind_eq_some_iff.1 hp
  refine RL.opD (by decide) (opv_ext (vs := [u0]) rfl rfl ⟨rfl, trivial⟩ Tryz.func70 rfl rfl rfl rfl (fun w => bits32_run g0 hx1 w)) ?_
  refine RL.opD (by decide) (opv_i2i rfl (by rw [Tryz.underlying104]; rfl) Tryz.underlying2 rfl) ?_
  refine RL.opD (by decide) (opv_assign rfl rfl) ?_
  refine RL.nil ?_
  refine thnN ?_
  refine W.ret ?_
  have er := Option.some.inj hp
  subst er
  exact Rt.one rfl rfl ⟨rfl, rfl⟩

end Go.H
