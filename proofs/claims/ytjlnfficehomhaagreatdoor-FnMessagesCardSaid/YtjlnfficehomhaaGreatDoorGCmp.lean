/- Functions of the program: what each computes, as a plain function, and that the call comes to it. Written by a program (wip/gen). -/
import Derived.Test.YtjlnfficehomhaaGreatDoorGBase
import Derived.Test.YtjlnfficehomhaaGreatDoorHBase
import Derived.Test.YtjlnfficehomhaaGreatDoorProg
import Derived.KernelRfl
set_option linter.unusedVariables false
namespace Go.HD
open Go Go.Proofs Go.H



noncomputable def cmp_isNaN_int64 (a0 : Int) : Option Bool :=
 some (a0 != a0)

noncomputable def cmp_Compare_int64 (a0 : Int) (a1 : Int) : Option Int :=
 ((cmp_isNaN_int64 a0).bind fun (x1 : Bool) => ((cmp_isNaN_int64 a1).bind fun (x2 : Bool) => (if x1 = true then (if x2 = true then some 0 else some (-1)) else (if x2 = true then some 1 else (if (decide (a0 < a1)) = true then some (-1) else (if (decide (a0 > a1)) = true then some 1 else some 0))))))

noncomputable def slices_Compare_int64_int64.s0 (a0 : List (Int)) (a1 : List (Int)) (x1 : Int) (x2 : Int) : Option ((Int × Int) ⊕ ((Int × Int × Bool) ⊕ Int)) :=
 (if (decide (x2 < (a0.length : Int))) = true then ((idx a0 x2).bind fun (x6 : Int) => (if (decide (x2 ≥ (a1.length : Int))) = true then some (.inr (.inr 1)) else ((idx a1 x2).bind fun (x7 : Int) => ((cmp_Compare_int64 x6 x7).bind fun (x8 : Int) => (if (x8 != 0) = true then some (.inr (.inr x8)) else some (.inl (x1, IntKind.wrap .i64 (x2 + 1)))))))) else some (.inr (.inl (x1, x2, decide (x2 < (a0.length : Int))))))

noncomputable def slices_Compare_int64_int64 (a0 : List (Int)) (a1 : List (Int)) : Option Int :=
 ((loopF (fun (s : (Int × Int)) => slices_Compare_int64_int64.s0 a0 a1 s.1 s.2) (0, 0)).bind fun (y1 : ((Int × Int × Bool) ⊕ Int)) => match y1 with | .inl (x3, x4, x5) => (if (decide ((a0.length : Int) < (a1.length : Int))) = true then some (-1) else some 0) | .inr r1 => some r1)

set_option maxRecDepth 20000 in
theorem cmp_isNaN_int64_ok (h0 : Heap) (a0 : Int) (r : Bool) (hp : cmp_isNaN_int64 a0 = some r) : CallsH Tryz.prog 68 ([(.int .i64 a0)].toArray ++ [].toArray) h0 (fun v h' => v = (.bool r) ∧ h0 = h') := by
 unfold cmp_isNaN_int64 at hp
 refine callsH_of_W (l := [(.int .i64 a0)]) (cap := []) 6 Tryz.func68 rfl rfl rfl ?_
 refine W.seq ?_
 refine W.region ?_
 refine RL.opD (by decide) (opv_assign rfl rfl) ?_
 refine RL.nil ?_
 refine thnN ?_
 refine W.seq ?_
 refine W.region ?_
 refine RL.opD (by decide) (opv_move rfl rfl) ?_
 refine RL.opD (by decide) (opv_move rfl rfl) ?_
 refine RL.opD (by decide) (opv_icmp rfl rfl rfl rfl) ?_
 refine RL.opD (by decide) (opv_assign rfl rfl) ?_
 refine RL.nil ?_
 refine thnN ?_
 refine W.ret ?_
 have er := Option.some.inj hp
 subst er
 exact Rt.one rfl rfl ⟨rfl, rfl⟩

set_option maxRecDepth 20000 in
theorem cmp_Compare_int64_ok (h0 : Heap) (a0 : Int) (a1 : Int) (r : Int) (hp : cmp_Compare_int64 a0 a1 = some r) : CallsH Tryz.prog 47 ([(.int .i64 a0), (.int .i64 a1)].toArray ++ [].toArray) h0 (fun v h' => v = (.int .i64 r) ∧ h0 = h') := by
 unfold cmp_Compare_int64 at hp
 refine callsH_of_W (l := [(.int .i64 a0), (.int .i64 a1)]) (cap := []) 20 Tryz.func47 rfl rfl rfl ?_
 refine W.seq ?_
 refine W.region ?_
 refine RL.opD (by decide) (opv_assign rfl rfl) ?_
 refine RL.nil ?_
 refine thnN ?_
 refine W.seq ?_
 refine W.region ?_
 refine RL.opD (by decide) (opv_move rfl rfl) ?_
 obtain ⟨x1, hx1, hp⟩ := Option.bind_eq_some_iff.1 hp
 refine RL.op _ (by decide) (opv_call (cap := []) (cmp_isNaN_int64_ok _ _ _ hx1) rfl rfl ⟨rfl, trivial⟩ Tryz.func68 rfl rfl) ?_
 rintro _ _ ⟨rfl, rfl⟩
 refine RL.opD (by decide) (opv_assign rfl rfl) ?_
 refine RL.nil ?_
 refine thnN ?_
 refine W.seq ?_
 refine W.region ?_
 refine RL.opD (by decide) (opv_move rfl rfl) ?_
 obtain ⟨x2, hx2, hp⟩ := Option.bind_eq_some_iff.1 hp
 refine RL.op _ (by decide) (opv_call (cap := []) (cmp_isNaN_int64_ok _ _ _ hx2) rfl rfl ⟨rfl, trivial⟩ Tryz.func68 rfl rfl) ?_
 rintro _ _ ⟨rfl, rfl⟩
 refine RL.opD (by decide) (opv_assign rfl rfl) ?_
 refine RL.nil ?_
 refine thnN ?_
 refine W.seq ?_
 refine W.seq ?_
 refine W.region ?_
 refine RL.opD (by decide) (opv_move rfl rfl) ?_
 refine RL.nil ?_
 refine thnN ?_
 by_cases c1 : x1 = true
 ·rw [if_pos c1] at hp
  refine W.condT rfl c1 ?_
  refine W.seq ?_
  refine W.seq ?_
  refine W.region ?_
  refine RL.opD (by decide) (opv_move rfl rfl) ?_
  refine RL.nil ?_
  refine thnN ?_
  by_cases c2 : x2 = true
  ·rw [if_pos c2] at hp
   refine W.condT rfl c2 ?_
   refine W.seq ?_
   refine W.region ?_
   refine RL.opD (by decide) (opv_assign rfl rfl) ?_
   refine RL.nil ?_
   refine thnN ?_
   refine W.ret ?_
   refine thnR ?_
   refine thnR ?_
   have er := Option.some.inj hp
   subst er
   exact Rt.one rfl rfl ⟨rfl, rfl⟩
  ·rw [if_neg c2] at hp
   have c2 := eq_false_of_ne_true c2
   refine W.condF rfl c2 ?_
   refine W.skip ?_
   refine thnN ?_
   refine W.seq ?_
   refine W.region ?_
   refine RL.opD (by decide) (opv_assign rfl rfl) ?_
   refine RL.nil ?_
   refine thnN ?_
   refine W.ret ?_
   refine thnR ?_
   have er := Option.some.inj hp
   subst er
   exact Rt.one rfl rfl ⟨rfl, rfl⟩
 ·rw [if_neg c1] at hp
  have c1 := eq_false_of_ne_true c1
  refine W.condF rfl c1 ?_
  refine W.skip ?_
  refine thnN ?_
  refine W.seq ?_
  refine W.seq ?_
  refine W.region ?_
  refine RL.opD (by decide) (opv_move rfl rfl) ?_
  refine RL.nil ?_
  refine thnN ?_
  by_cases c3 : x2 = true
  ·rw [if_pos c3] at hp
   refine W.condT rfl c3 ?_
   refine W.seq ?_
   refine W.region ?_
   refine RL.opD (by decide) (opv_assign rfl rfl) ?_
   refine RL.nil ?_
   refine thnN ?_
   refine W.ret ?_
   refine thnR ?_
   have er := Option.some.inj hp
   subst er
   exact Rt.one rfl rfl ⟨rfl, rfl⟩
  ·rw [if_neg c3] at hp
   have c3 := eq_false_of_ne_true c3
   refine W.condF rfl c3 ?_
   refine W.skip ?_
   refine thnN ?_
   refine W.seq ?_
   refine W.seq ?_
   refine W.region ?_
   refine RL.opD (by decide) (opv_move rfl rfl) ?_
   refine RL.opD (by decide) (opv_move rfl rfl) ?_
   refine RL.opD (by decide) (opv_icmp rfl rfl rfl rfl) ?_
   refine RL.nil ?_
   refine thnN ?_
   by_cases c4 : (decide (a0 < a1)) = true
   ·rw [if_pos c4] at hp
    refine W.condT rfl c4 ?_
    refine W.seq ?_
    refine W.region ?_
    refine RL.opD (by decide) (opv_assign rfl rfl) ?_
    refine RL.nil ?_
    refine thnN ?_
    refine W.ret ?_
    refine thnR ?_
    have er := Option.some.inj hp
    subst er
    exact Rt.one rfl rfl ⟨rfl, rfl⟩
   ·rw [if_neg c4] at hp
    have c4 := eq_false_of_ne_true c4
    refine W.condF rfl c4 ?_
    refine W.skip ?_
    refine thnN ?_
    refine W.seq ?_
    refine W.seq ?_
    refine W.region ?_
    refine RL.opD (by decide) (opv_move rfl rfl) ?_
    refine RL.opD (by decide) (opv_move rfl rfl) ?_
    refine RL.opD (by decide) (opv_icmp rfl rfl rfl rfl) ?_
    refine RL.nil ?_
    refine thnN ?_
    by_cases c5 : (decide (a0 > a1)) = true
    ·rw [if_pos c5] at hp
     refine W.condT rfl c5 ?_
     refine W.seq ?_
     refine W.region ?_
     refine RL.opD (by decide) (opv_assign rfl rfl) ?_
     refine RL.nil ?_
     refine thnN ?_
     refine W.ret ?_
     refine thnR ?_
     have er := Option.some.inj hp
     subst er
     exact Rt.one rfl rfl ⟨rfl, rfl⟩
    ·rw [if_neg c5] at hp
     have c5 := eq_false_of_ne_true c5
     refine W.condF rfl c5 ?_
     refine W.skip ?_
     refine thnN ?_
     refine W.seq ?_
     refine W.region ?_
     refine RL.opD (by decide) (opv_assign rfl rfl) ?_
     refine RL.nil ?_
     refine thnN ?_
     refine W.ret ?_
     have er := Option.some.inj hp
     subst er
     exact Rt.one rfl rfl ⟨rfl, rfl⟩

set_option maxRecDepth 20000 in
theorem slices_Compare_int64_int64_ok (h0 : Heap) (u0 : Value) (a0 : List (Int)) (g0 : SL (kI .i64) h0.size h0 u0 a0) (u1 : Value) (a1 : List (Int)) (g1 : SL (kI .i64) h0.size h0 u1 a1) (r : Int) (hp : slices_Compare_int64_int64 a0 a1 = some r) : CallsH Tryz.prog 24 ([u0, u1].toArray ++ [].toArray) h0 (fun v h' => v = (.int .i64 r) ∧ h0 = h') := by
 unfold slices_Compare_int64_int64 at hp
 refine callsH_of_W (l := [u0, u1]) (cap := []) 36 Tryz.func24 rfl rfl rfl ?_
 refine W.seq ?_
 refine W.region ?_
 refine RL.opD (by decide) (opv_assign rfl rfl) ?_
 refine RL.nil ?_
 refine thnN ?_
 refine W.seq ?_
 refine W.seq ?_
 refine W.region ?_
 refine RL.opD (by decide) (opv_move rfl rfl) ?_
 refine RL.opD (by decide) (opv_len rfl Tryz.underlying38 rfl g0) ?_
 refine RL.opD (by decide) (opv_move rfl rfl) ?_
 refine RL.nil ?_
 refine thnN ?_
 obtain ⟨y1, hy1, hp⟩ := Option.bind_eq_some_iff.1 hp
 refine W.cut (fun φ' h' => ∃ x3, ∃ x4, ∃ x5, y1 = .inl (x3, x4, x5) ∧ Fr.sub [(0, u0), (1, u1), (9, u0), (10, (.int .i64 (a0.length : Int))), (4, (.int .i64 x3)), (11, (.int .i64 x4)), (12, (.bool x5))] φ' ∧ h0 = h') ?_ ?_
 ·refine W.block ?_
  refine W.loopS (fun (s : (Int × Int)) φ' h' => Fr.sub [(0, u0), (1, u1), (9, u0), (10, (.int .i64 (a0.length : Int))), (4, (.int .i64 s.1)), (11, (.int .i64 s.2))] φ' ∧ h0 = h') hy1 ⟨⟨rfl, rfl, rfl, rfl, rfl, rfl, trivial⟩, rfl⟩ ?_
  rintro ⟨x1, x2⟩ φ' _ o1 ⟨hs1, rfl⟩ ho1 hy1
  have hs1 : Fr.sub [(0, u0), (1, u1), (9, u0), (10, (.int .i64 (a0.length : Int))), (4, (.int .i64 x1)), (11, (.int .i64 x2))] φ' := hs1
  have ho1 : slices_Compare_int64_int64.s0 a0 a1 x1 x2 = some o1 := ho1
  unfold slices_Compare_int64_int64.s0 at ho1
  refine W.sub hs1 ?_
  refine W.seq ?_
  refine W.region ?_
  refine RL.opD (by decide) (opv_icmp rfl rfl rfl rfl) ?_
  refine RL.nil ?_
  refine thnN ?_
  refine W.seq ?_
  by_cases c1 : (decide (x2 < (a0.length : Int))) = true
  ·rw [if_pos c1] at ho1
   refine W.condT rfl c1 ?_
   refine W.skip ?_
   refine thnN ?_
   refine W.seq ?_
   refine W.block ?_
   refine W.seq ?_
   refine W.region ?_
   refine RL.opD (by decide) (opv_move rfl rfl) ?_
   obtain ⟨x6, hx6, ho1⟩ := Option.bind_eq_some_iff.1 ho1
   refine RL.op _ (by decide) (opv_index rfl Tryz.underlying38 (by rw [Tryz.size2]; rfl) rfl rfl g0 hx6) ?_
   rintro v1 _ ⟨fv1, rfl⟩
   refine RL.opD (by decide) (opv_loadI rfl Tryz.one2 rfl fv1 g0 hx6) ?_
   refine RL.opD (by decide) (opv_assign rfl rfl) ?_
   refine RL.opD (by decide) (opv_assign rfl rfl) ?_
   refine RL.nil ?_
   refine thnN ?_
   refine W.seq ?_
   refine W.seq ?_
   refine W.region ?_
   refine RL.opD (by decide) (opv_move rfl rfl) ?_
   refine RL.opD (by decide) (opv_move rfl rfl) ?_
   refine RL.opD (by decide) (opv_len rfl Tryz.underlying38 rfl g1) ?_
   refine RL.opD (by decide) (opv_icmp rfl rfl rfl rfl) ?_
   refine RL.nil ?_
   refine thnN ?_
   by_cases c2 : (decide (x2 ≥ (a1.length : Int))) = true
   ·rw [if_pos c2] at ho1
    refine W.condT rfl c2 ?_
    refine W.seq ?_
    refine W.region ?_
    refine RL.opD (by decide) (opv_assign rfl rfl) ?_
    refine RL.nil ?_
    refine thnN ?_
    refine W.ret ?_
    refine thnR ?_
    refine blkR ?_
    refine thnR ?_
    have eo1 := Option.some.inj ho1
    subst eo1
    have ey1 := hy1 _ rfl
    subst ey1
    try dsimp only at hp
    refine rndR ?_
    refine blkR ?_
    refine onlyR ?_
    refine thnR ?_
    have er := Option.some.inj hp
    subst er
    exact Rt.one rfl rfl ⟨rfl, rfl⟩
   ·rw [if_neg c2] at ho1
    have c2 := eq_false_of_ne_true c2
    refine W.condF rfl c2 ?_
    refine W.skip ?_
    refine thnN ?_
    refine W.seq ?_
    refine W.region ?_
    refine RL.opD (by decide) (opv_move rfl rfl) ?_
    refine RL.opD (by decide) (opv_move rfl rfl) ?_
    obtain ⟨x7, hx7, ho1⟩ := Option.bind_eq_some_iff.1 ho1
    refine RL.op _ (by decide) (opv_index rfl Tryz.underlying38 (by rw [Tryz.size2]; rfl) rfl rfl g1 hx7) ?_
    rintro v2 _ ⟨fv2, rfl⟩
    refine RL.opD (by decide) (opv_loadI rfl Tryz.one2 rfl fv2 g1 hx7) ?_
    refine RL.opD (by decide) (opv_assign rfl rfl) ?_
    refine RL.nil ?_
    refine thnN ?_
    refine W.seq ?_
    refine W.region ?_
    refine RL.opD (by decide) (opv_move rfl rfl) ?_
    refine RL.opD (by decide) (opv_move rfl rfl) ?_
    obtain ⟨x8, hx8, ho1⟩ := Option.bind_eq_some_iff.1 ho1
    refine RL.op _ (by decide) (opv_call (cap := []) (cmp_Compare_int64_ok _ _ _ _ hx8) rfl rfl ⟨rfl, rfl, trivial⟩ Tryz.func47 rfl rfl) ?_
    rintro _ _ ⟨rfl, rfl⟩
    refine RL.opD (by decide) (opv_assign rfl rfl) ?_
    refine RL.nil ?_
    refine thnN ?_
    refine W.seq ?_
    refine W.region ?_
    refine RL.opD (by decide) (opv_move rfl rfl) ?_
    refine RL.opD (by decide) (opv_icmp rfl rfl rfl rfl) ?_
    refine RL.nil ?_
    refine thnN ?_
    by_cases c3 : (x8 != 0) = true
    ·rw [if_pos c3] at ho1
     refine W.condT rfl c3 ?_
     refine W.seq ?_
     refine W.region ?_
     refine RL.opD (by decide) (opv_move rfl rfl) ?_
     refine RL.opD (by decide) (opv_assign rfl rfl) ?_
     refine RL.nil ?_
     refine thnN ?_
     refine W.ret ?_
     refine blkR ?_
     refine thnR ?_
     have eo1 := Option.some.inj ho1
     subst eo1
     have ey1 := hy1 _ rfl
     subst ey1
     try dsimp only at hp
     refine rndR ?_
     refine blkR ?_
     refine onlyR ?_
     refine thnR ?_
     have er := Option.some.inj hp
     subst er
     exact Rt.one rfl rfl ⟨rfl, rfl⟩
    ·rw [if_neg c3] at ho1
     have c3 := eq_false_of_ne_true c3
     refine W.condF rfl c3 ?_
     refine W.skip ?_
     refine blkN ?_
     refine thnN ?_
     refine W.region ?_
     refine RL.opD (by decide) (opv_add rfl rfl rfl) ?_
     refine RL.opD (by decide) (opv_move rfl rfl) ?_
     refine RL.nil ?_
     have eo1 := Option.some.inj ho1
     subst eo1
     refine rndN (s' := (x1, IntKind.wrap .i64 (x2 + 1))) rfl ?_
     exact ⟨⟨rfl, rfl, rfl, rfl, rfl, rfl, trivial⟩, rfl⟩
  ·rw [if_neg c1] at ho1
   have c1 := eq_false_of_ne_true c1
   refine W.condF rfl c1 ?_
   refine W.exit ?_
   refine thnX ?_
   refine rndX ?_
   refine blkI ?_
   have eo1 := Option.some.inj ho1
   subst eo1
   have ey1 := hy1 _ rfl
   subst ey1
   refine onlyN ?_
   exact ⟨x1, x2, decide (x2 < (a0.length : Int)), rfl, ⟨rfl, rfl, rfl, rfl, rfl, rfl, rfl, trivial⟩, rfl⟩
 rintro φ' _ ⟨x3, x4, x5, rfl, hs2, rfl⟩
 try dsimp only at hp
 refine thnN ?_
 refine W.sub hs2 ?_
 refine W.seq ?_
 refine W.seq ?_
 refine W.region ?_
 refine RL.opD (by decide) (opv_move rfl rfl) ?_
 refine RL.opD (by decide) (opv_len rfl Tryz.underlying38 rfl g0) ?_
 refine RL.opD (by decide) (opv_move rfl rfl) ?_
 refine RL.opD (by decide) (opv_len rfl Tryz.underlying38 rfl g1) ?_
 refine RL.opD (by decide) (opv_icmp rfl rfl rfl rfl) ?_
 refine RL.nil ?_
 refine thnN ?_
 by_cases c4 : (decide ((a0.length : Int) < (a1.length : Int))) = true
 ·rw [if_pos c4] at hp
  refine W.condT rfl c4 ?_
  refine W.seq ?_
  refine W.region ?_
  refine RL.opD (by decide) (opv_assign rfl rfl) ?_
  refine RL.nil ?_
  refine thnN ?_
  refine W.ret ?_
  refine thnR ?_
  have er := Option.some.inj hp
  subst er
  exact Rt.one rfl rfl ⟨rfl, rfl⟩
 ·rw [if_neg c4] at hp
  have c4 := eq_false_of_ne_true c4
  refine W.condF rfl c4 ?_
  refine W.skip ?_
  refine thnN ?_
  refine W.seq ?_
  refine W.region ?_
  refine RL.opD (by decide) (opv_assign rfl rfl) ?_
  refine RL.nil ?_
  refine thnN ?_
  refine W.ret ?_
  have er := Option.some.inj hp
  subst er
  exact Rt.one rfl rfl ⟨rfl, rfl⟩

end Go.HD
