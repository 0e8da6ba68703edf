/- Functions of the program: what each computes, as a plain function, and that the call comes to it. Written by a program (wip/gen). -/
import Derived.Test.YtmgoblppedmdhaaGBase
import Derived.Test.YtmgoblppedmdhaaGSheet
import Derived.Test.YtmgoblppedmdhaaGTrig
import Derived.Test.YtmgoblppedmdhaaLibB
import Derived.Test.YtmgoblppedmdhaaProg
import Derived.KernelRfl
set_option linter.unusedVariables false
namespace Go.H
open Go Go.Proofs



noncomputable def impl_add (a0 : (Option Nat × Option Nat)) (a1 : (Option Nat × Option Nat)) : Option (Option Nat × Option Nat) :=
 some (fop .add .f32 a0.1 a1.1, fop .add .f32 a0.2 a1.2)

noncomputable def impl_ScaleComplex (a0 : (Option Nat × Option Nat)) (a1 : Option Nat) : Option (Option Nat × Option Nat) :=
 some (fop .mul .f32 a0.1 a1, fop .mul .f32 a0.2 a1)

noncomputable def impl_share (a0 : Int) (a1 : Int) (a2 : Int) : Option (Option Nat) :=
 (if a2 = 0 then none else some (fop .quo .f64 (fofi .f64 (Int.tmod (IntKind.wrap .i64 (a0 * a1)) a2)) (fofi .f64 a2)))

noncomputable def impl_SpectrumOf.s1 (a0 : List (Option Nat)) (x3 : Int) (x7 : (Option Nat × Option Nat)) (x8 : Int) : Option (((Option Nat × Option Nat) × Int) ⊕ ((Option Nat × Option Nat) × Int × Bool)) :=
 (if (decide (x8 < (a0.length : Int))) = true then ((idx a0 x8).bind fun (x12 : Option Nat) => ((impl_share x8 x3 (a0.length : Int)).bind fun (x13 : Option Nat) => ((impl_PhasorOf (fneg .f64 x13)).bind fun (x14 : (Option Nat × Option Nat)) => ((impl_ScaleComplex x14 x12).bind fun (x15 : (Option Nat × Option Nat)) => ((impl_add x7 x15).bind fun (x16 : (Option Nat × Option Nat)) => some (.inl (x16, IntKind.wrap .i64 (x8 + 1)))))))) else some (.inr (x7, x8, decide (x8 < (a0.length : Int)))))

noncomputable def impl_SpectrumOf.s0 (a0 : List (Option Nat)) (x2 : List ((Option Nat × Option Nat))) (x3 : Int) : Option (((List ((Option Nat × Option Nat))) × Int) ⊕ (Int × Bool × (List ((Option Nat × Option Nat))))) :=
 (if (decide (x3 < (a0.length : Int))) = true then ((loopF (fun (s : ((Option Nat × Option Nat) × Int)) => impl_SpectrumOf.s1 a0 x3 s.1 s.2) ((some 0, some 0), 0)).bind fun (⟨x9, x10, x11⟩ : ((Option Nat × Option Nat) × Int × Bool)) => (if x2.length + [x9].length ≤ 1000000000 then some (.inl (x2 ++ [x9], IntKind.wrap .i64 (x3 + 1))) else none)) else some (.inr (x3, decide (x3 < (a0.length : Int)), x2)))

noncomputable def impl_SpectrumOf (a0 : List (Option Nat)) : Option ((List ((Option Nat × Option Nat))) × Bool) :=
 ((impl_isRecord_float32 a0).bind fun (x1 : Bool) => (if (!x1) = true then some (([] : List ((Option Nat × Option Nat))), false) else ((loopF (fun (s : ((List ((Option Nat × Option Nat))) × Int)) => impl_SpectrumOf.s0 a0 s.1 s.2) (([] : List ((Option Nat × Option Nat))), 0)).bind fun (⟨x4, x5, x6⟩ : (Int × Bool × (List ((Option Nat × Option Nat))))) => some (x6, true))))

noncomputable def impl_parts (a0 : (Option Nat × Option Nat)) : Option ((Option Nat) × (Option Nat)) :=
 some (wid a0.1, wid a0.2)

noncomputable def impl_power (a0 : (Option Nat × Option Nat)) : Option (Option Nat) :=
 ((impl_parts a0).bind fun (x1 : ((Option Nat) × (Option Nat))) => some (fop .add .f64 (fop .mul .f64 x1.1 x1.1) (fop .mul .f64 x1.2 x1.2)))

noncomputable def math_Sqrt (a0 : Option Nat) : Option (Option Nat) :=
 some (fsqrt a0)

noncomputable def impl_LongOf (a0 : (Option Nat × Option Nat)) : Option (Option Nat) :=
 ((impl_power a0).bind fun (x1 : Option Nat) => ((math_Sqrt x1).bind fun (x2 : Option Nat) => ((fcv .f64 .f32 x2).bind fun (x3 : Option Nat) => some x3)))

noncomputable def laws_r8Apart (a0 : (Option Nat × Option Nat)) (a1 : (Option Nat × Option Nat)) : Option (Option Nat) :=
 ((impl_LongOf (cop .sub .f32 a0 a1)).bind fun (x1 : Option Nat) => some (wid x1))

noncomputable def impl_PowerOf (a0 : (Option Nat × Option Nat)) : Option (Option Nat) :=
 ((impl_power a0).bind fun (x1 : Option Nat) => ((fcv .f64 .f32 x1).bind fun (x2 : Option Nat) => some x2))

set_option maxRecDepth 20000 in
theorem impl_add_ok (h0 : Heap) (u0 : Value) (a0 : (Option Nat × Option Nat)) (g0 : IsC .f32 u0 a0) (u1 : Value) (a1 : (Option Nat × Option Nat)) (g1 : IsC .f32 u1 a1) (r : (Option Nat × Option Nat)) (hp : impl_add a0 a1 = some r) : CallsH Try.prog 83 ([u0, u1].toArray ++ [].toArray) h0 (fun v h' => IsC .f32 v r ∧ h0 = h') := by
 unfold impl_add at hp
 refine callsH_of_W (l := [u0, u1]) (cap := []) 16 Try.func83 rfl rfl rfl ?_
 refine W.seq ?_
 refine W.region ?_
 refine RL.opD (by decide) (opv_assign rfl rfl) ?_
 refine RL.nil ?_
 refine thnN ?_
 refine W.seq ?_
 refine W.region ?_
 refine RL.opD (by decide) (opv_move rfl rfl) ?_
 refine RL.opF (by decide) (opv_real rfl rfl g0) ?_
 intro v1 fv1
 refine RL.opD (by decide) (opv_move rfl rfl) ?_
 refine RL.opF (by decide) (opv_real rfl rfl g1) ?_
 intro v2 fv2
 refine RL.opF (by decide) (opv_fop rfl rfl rfl rfl fv1 fv2) ?_
 intro v3 fv3
 refine RL.opD (by decide) (opv_move rfl rfl) ?_
 refine RL.opF (by decide) (opv_imag rfl rfl g0) ?_
 intro v4 fv4
 refine RL.opD (by decide) (opv_move rfl rfl) ?_
 refine RL.opF (by decide) (opv_imag rfl rfl g1) ?_
 intro v5 fv5
 refine RL.opF (by decide) (opv_fop rfl rfl rfl rfl fv4 fv5) ?_
 intro v6 fv6
 refine RL.op _ (by decide) (opv_complex rfl rfl rfl fv3 fv6) ?_
 rintro v7 _ ⟨fv7, rfl⟩
 refine RL.opD (by decide) (opv_assign rfl rfl) ?_
 refine RL.nil ?_
 refine thnN ?_
 refine W.ret ?_
 have er := Option.some.inj hp
 subst er
 exact Rt.one rfl rfl ⟨fv7, rfl⟩

set_option maxRecDepth 20000 in
theorem impl_ScaleComplex_ok (h0 : Heap) (u0 : Value) (a0 : (Option Nat × Option Nat)) (g0 : IsC .f32 u0 a0) (u1 : Value) (a1 : Option Nat) (g1 : IsF .f32 u1 a1) (r : (Option Nat × Option Nat)) (hp : impl_ScaleComplex a0 a1 = some r) : CallsH Try.prog 89 ([u0, u1].toArray ++ [].toArray) h0 (fun v h' => IsC .f32 v r ∧ h0 = h') := by
 unfold impl_ScaleComplex at hp
 refine callsH_of_W (l := [u0, u1]) (cap := []) 14 Try.func89 rfl rfl rfl ?_
 refine W.seq ?_
 refine W.region ?_
 refine RL.opD (by decide) (opv_assign rfl rfl) ?_
 refine RL.nil ?_
 refine thnN ?_
 refine W.seq ?_
 refine W.region ?_
 refine RL.opD (by decide) (opv_move rfl rfl) ?_
 refine RL.opF (by decide) (opv_real rfl rfl g0) ?_
 intro v1 fv1
 refine RL.opD (by decide) (opv_move rfl rfl) ?_
 refine RL.opF (by decide) (opv_fop rfl rfl rfl rfl fv1 g1) ?_
 intro v2 fv2
 refine RL.opD (by decide) (opv_move rfl rfl) ?_
 refine RL.opF (by decide) (opv_imag rfl rfl g0) ?_
 intro v3 fv3
 refine RL.opD (by decide) (opv_move rfl rfl) ?_
 refine RL.opF (by decide) (opv_fop rfl rfl rfl rfl fv3 g1) ?_
 intro v4 fv4
 refine RL.op _ (by decide) (opv_complex rfl rfl rfl fv2 fv4) ?_
 rintro v5 _ ⟨fv5, rfl⟩
 refine RL.opD (by decide) (opv_assign rfl rfl) ?_
 refine RL.nil ?_
 refine thnN ?_
 refine W.ret ?_
 have er := Option.some.inj hp
 subst er
 exact Rt.one rfl rfl ⟨fv5, rfl⟩

set_option maxRecDepth 20000 in
theorem impl_share_ok (h0 : Heap) (a0 : Int) (a1 : Int) (a2 : Int) (r : Option Nat) (hp : impl_share a0 a1 a2 = some r) : CallsH Try.prog 91 ([(.int .i64 a0), (.int .i64 a1), (.int .i64 a2)].toArray ++ [].toArray) h0 (fun v h' => IsF .f64 v r ∧ h0 = h') := by
 unfold impl_share at hp
 refine callsH_of_W (l := [(.int .i64 a0), (.int .i64 a1), (.int .i64 a2)]) (cap := []) 16 Try.func91 rfl rfl rfl ?_
 refine W.seq ?_
 refine W.region ?_
 refine RL.opD (by decide) (opv_assign rfl rfl) ?_
 refine RL.nil ?_
 refine thnN ?_
 refine W.seq ?_
 refine W.region ?_
 refine RL.opD (by decide) (opv_move rfl rfl) ?_
 refine RL.opD (by decide) (opv_move rfl rfl) ?_
 refine RL.opD (by decide) (opv_mul rfl rfl rfl) ?_
 refine RL.opD (by decide) (opv_move rfl rfl) ?_
 by_cases nc1 : a2 = 0
 ·rw [if_pos nc1] at hp; cases hp
 rw [if_neg nc1] at hp
 have c1 : a2 ≠ 0 := nc1
 refine RL.opD (by decide) (opv_rem rfl c1 rfl rfl) ?_
 refine RL.opF (by decide) (opv_i2f rfl (by rw [Try.underlying3]; rfl) Try.underlying43 rfl) ?_
 intro v1 fv1
 refine RL.opD (by decide) (opv_move rfl rfl) ?_
 refine RL.opF (by decide) (opv_i2f rfl (by rw [Try.underlying3]; rfl) Try.underlying43 rfl) ?_
 intro v2 fv2
 refine RL.opF (by decide) (opv_fop rfl rfl rfl rfl fv1 fv2) ?_
 intro v3 fv3
 refine RL.opD (by decide) (opv_assign rfl rfl) ?_
 refine RL.nil ?_
 refine thnN ?_
 refine W.ret ?_
 have er := Option.some.inj hp
 subst er
 exact Rt.one rfl rfl ⟨fv3, rfl⟩

set_option maxRecDepth 20000 in
theorem impl_SpectrumOf_ok (h0 : Heap) (u0 : Value) (a0 : List (Option Nat)) (g0 : SL (kF .f32) h0.size h0 u0 a0) (r : ((List ((Option Nat × Option Nat))) × Bool)) (hp : impl_SpectrumOf a0 = some r) : CallsH Try.prog 31 ([u0].toArray ++ [].toArray) h0 (fun v h' => ∃ w0, v = (.tuple (List.toArray (α := Value) [w0, (.bool r.2)])) ∧ Mod [] h0 h' ∧ Sep [] h0.size h' [ownO (kC .f32) 45 w0 r.1]) := by
 unfold impl_SpectrumOf at hp
 refine callsH_of_W (l := [u0]) (cap := []) 44 Try.func31 rfl rfl rfl ?_
 refine W.seq ?_
 refine W.region ?_
 refine RL.opD (by decide) (opv_assign rfl rfl) ?_
 have S_1 : Sep [] h0.size h0 [ownO (kC .f32) 45 (.slice none 0 0) ([] : List ((Option Nat × Option Nat)))] := Sep.addNil (Sep.nil [] h0.size h0)
 refine RL.opD (by decide) (opv_assign rfl rfl) ?_
 refine RL.nil ?_
 refine thnN ?_
 refine W.seq ?_
 refine W.seq ?_
 refine W.region ?_
 refine RL.opD (by decide) (opv_move rfl rfl) ?_
 obtain ⟨x1, hx1, hp⟩ := Option.bind_eq_some_iff.1 hp
 refine RL.op _ (by decide) (opv_call (cap := []) (impl_isRecord_float32_ok _ _ _ g0 _ hx1) rfl rfl ⟨rfl, trivial⟩ Try.func70 rfl rfl) ?_
 rintro _ _ ⟨rfl, rfl⟩
 refine RL.opD (by decide) (opv_not rfl rfl) ?_
 refine RL.nil ?_
 refine thnN ?_
 by_cases c1 : (!x1) = true
 ·rw [if_pos c1] at hp
  refine W.condT rfl c1 ?_
  refine W.seq ?_
  refine W.region ?_
  refine RL.opD (by decide) (opv_assign rfl rfl) ?_
  have S_2 : Sep [] h0.size h0 [ownO (kC .f32) 45 (.slice none 0 0) ([] : List ((Option Nat × Option Nat))), ownO (kC .f32) 45 (.slice none 0 0) ([] : List ((Option Nat × Option Nat)))] := Sep.addNil S_1
  refine RL.opD (by decide) (opv_assign rfl rfl) ?_
  refine RL.nil ?_
  refine thnN ?_
  refine W.ret ?_
  refine thnR ?_
  have er := Option.some.inj hp
  subst er
  exact Rt.two rfl rfl rfl ⟨(.slice none 0 0), rfl, (Mod.refl [] h0), (Sep.sel S_2 [0] (by decide))⟩
 ·rw [if_neg c1] at hp
  have c1 := eq_false_of_ne_true c1
  refine W.condF rfl c1 ?_
  refine W.skip ?_
  refine thnN ?_
  refine W.seq ?_
  refine W.region ?_
  refine RL.op _ (by decide) (opS_lit0 (K := (kC .f32)) rfl Try.underlying59 Try.isinfo45) ?_
  rintro v1 hp1 ⟨MT_1, T_1⟩
  obtain ⟨X_1, S_3⟩ := Sep.turn0 (Mod.refl [] h0) S_1 MT_1 T_1
  refine RL.opD (by decide) (opv_move rfl rfl) ?_
  refine RL.opD (by decide) (opv_len rfl Try.underlying25 rfl (SL.mod g0 X_1 (Nat.le_refl _) nob)) ?_
  refine RL.opD (by decide) (opv_assign rfl rfl) ?_
  refine RL.opD (by decide) (opv_assign rfl rfl) ?_
  refine RL.nil ?_
  refine thnN ?_
  refine W.seq ?_
  refine W.seq ?_
  refine W.region ?_
  refine RL.opD (by decide) (opv_move rfl rfl) ?_
  refine RL.opD (by decide) (opv_move rfl rfl) ?_
  refine RL.nil ?_
  refine thnN ?_
  obtain ⟨y1, hy1, hp⟩ := Option.bind_eq_some_iff.1 hp
  refine W.cut (fun φ' h' => ∃ x4, ∃ x5, ∃ x6, ∃ v3, y1 = (x4, x5, x6) ∧ Fr.sub [(0, u0), (2, (.slice none 0 0)), (3, (.bool false)), (12, (.bool (!x1))), (5, (.int .i64 (a0.length : Int))), (16, (.int .i64 (a0.length : Int))), (17, (.int .i64 x4)), (18, (.bool x5)), (4, v3)] φ' ∧ Mod [] h0 h' ∧ Sep [] h0.size h' [ownO (kC .f32) 45 (.slice none 0 0) ([] : List ((Option Nat × Option Nat))), ownO (kC .f32) 45 v3 x6]) ?_ ?_
  ·refine W.block ?_
   refine W.loopS (fun (s : ((List ((Option Nat × Option Nat))) × Int)) φ' h' => ∃ v2, Fr.sub [(0, u0), (2, (.slice none 0 0)), (3, (.bool false)), (12, (.bool (!x1))), (5, (.int .i64 (a0.length : Int))), (16, (.int .i64 (a0.length : Int))), (4, v2), (17, (.int .i64 s.2))] φ' ∧ Mod [] h0 h' ∧ Sep [] h0.size h' [ownO (kC .f32) 45 v2 s.1, ownO (kC .f32) 45 (.slice none 0 0) ([] : List ((Option Nat × Option Nat)))]) hy1 ⟨v1, ⟨rfl, rfl, rfl, rfl, rfl, rfl, rfl, rfl, trivial⟩, X_1, (Sep.sel S_3 [0, 1] (by decide))⟩ ?_
   rintro ⟨x2, x3⟩ φ' hp2 o1 ⟨v2, hs1, X_2, S_4⟩ ho1 hy1
   have hs1 : Fr.sub [(0, u0), (2, (.slice none 0 0)), (3, (.bool false)), (12, (.bool (!x1))), (5, (.int .i64 (a0.length : Int))), (16, (.int .i64 (a0.length : Int))), (4, v2), (17, (.int .i64 x3))] φ' := hs1
   have S_4 : Sep [] h0.size hp2 [ownO (kC .f32) 45 v2 x2, ownO (kC .f32) 45 (.slice none 0 0) ([] : List ((Option Nat × Option Nat)))] := S_4
   have ho1 : impl_SpectrumOf.s0 a0 x2 x3 = some o1 := ho1
   unfold impl_SpectrumOf.s0 at ho1
   refine W.sub hs1 ?_
   refine W.seq ?_
   refine W.region ?_
   refine RL.opD (by decide) (opv_icmp rfl rfl rfl rfl) ?_
   refine RL.nil ?_
   refine thnN ?_
   refine W.seq ?_
   by_cases c2 : (decide (x3 < (a0.length : Int))) = true
   ·rw [if_pos c2] at ho1
    refine W.condT rfl c2 ?_
    refine W.skip ?_
    refine thnN ?_
    refine W.seq ?_
    refine W.block ?_
    refine W.seq ?_
    refine W.region ?_
    refine RL.opD (by decide) (opv_move rfl rfl) ?_
    refine RL.opD (by decide) (opv_assign rfl rfl) ?_
    refine RL.nil ?_
    refine thnN ?_
    refine W.seq ?_
    refine W.region ?_
    refine RL.opD (by decide) (opv_assign rfl rfl) ?_
    refine RL.nil ?_
    refine thnN ?_
    refine W.seq ?_
    refine W.seq ?_
    refine W.region ?_
    refine RL.opD (by decide) (opv_move rfl rfl) ?_
    refine RL.opD (by decide) (opv_len rfl Try.underlying25 rfl (SL.mod g0 X_2 (Nat.le_refl _) nob)) ?_
    refine RL.opD (by decide) (opv_move rfl rfl) ?_
    refine RL.nil ?_
    refine thnN ?_
    obtain ⟨y2, hy2, ho1⟩ := Option.bind_eq_some_iff.1 ho1
    refine W.cut (fun φ' h' => ∃ x9, ∃ x10, ∃ x11, ∃ v5, y2 = (x9, x10, x11) ∧ Fr.sub [(0, u0), (2, (.slice none 0 0)), (3, (.bool false)), (12, (.bool (!x1))), (5, (.int .i64 (a0.length : Int))), (16, (.int .i64 (a0.length : Int))), (4, v2), (17, (.int .i64 x3)), (18, (.bool (decide (x3 < (a0.length : Int))))), (6, (.int .i64 x3)), (20, u0), (21, (.int .i64 (a0.length : Int))), (7, v5), (22, (.int .i64 x10)), (23, (.bool x11))] φ' ∧ IsC .f32 v5 x9 ∧ hp2 = h') ?_ ?_
    ·refine W.block ?_
     refine W.loopS (fun (s : ((Option Nat × Option Nat) × Int)) φ' h' => ∃ v4, Fr.sub [(0, u0), (2, (.slice none 0 0)), (3, (.bool false)), (12, (.bool (!x1))), (5, (.int .i64 (a0.length : Int))), (16, (.int .i64 (a0.length : Int))), (4, v2), (17, (.int .i64 x3)), (18, (.bool (decide (x3 < (a0.length : Int))))), (6, (.int .i64 x3)), (20, u0), (21, (.int .i64 (a0.length : Int))), (7, v4), (22, (.int .i64 s.2))] φ' ∧ IsC .f32 v4 s.1 ∧ hp2 = h') hy2 ⟨(.complex .f32 0 0), ⟨rfl, rfl, rfl, rfl, rfl, rfl, rfl, rfl, rfl, rfl, rfl, rfl, rfl, rfl, trivial⟩, (isC_lit .f32 0 0 (by decide) (by decide) (by decide) (by decide)), rfl⟩ ?_
     rintro ⟨x7, x8⟩ φ' _ o2 ⟨v4, hs3, fv4, rfl⟩ ho2 hy2
     have hs3 : Fr.sub [(0, u0), (2, (.slice none 0 0)), (3, (.bool false)), (12, (.bool (!x1))), (5, (.int .i64 (a0.length : Int))), (16, (.int .i64 (a0.length : Int))), (4, v2), (17, (.int .i64 x3)), (18, (.bool (decide (x3 < (a0.length : Int))))), (6, (.int .i64 x3)), (20, u0), (21, (.int .i64 (a0.length : Int))), (7, v4), (22, (.int .i64 x8))] φ' := hs3
     have fv4 : IsC .f32 v4 x7 := fv4
     have ho2 : impl_SpectrumOf.s1 a0 x3 x7 x8 = some o2 := ho2
     unfold impl_SpectrumOf.s1 at ho2
     refine W.sub hs3 ?_
     refine W.seq ?_
     refine W.region ?_
     refine RL.opD (by decide) (opv_icmp rfl rfl rfl rfl) ?_
     refine RL.nil ?_
     refine thnN ?_
     refine W.seq ?_
     by_cases c3 : (decide (x8 < (a0.length : Int))) = true
     ·rw [if_pos c3] at ho2
      refine W.condT rfl c3 ?_
      refine W.skip ?_
      refine thnN ?_
      refine W.seq ?_
      refine W.block ?_
      refine W.seq ?_
      refine W.region ?_
      refine RL.opD (by decide) (opv_move rfl rfl) ?_
      obtain ⟨x12, hx12, ho2⟩ := Option.bind_eq_some_iff.1 ho2
      refine RL.op _ (by decide) (opv_index rfl Try.underlying25 (by rw [Try.size29]; rfl) rfl rfl (SL.mod g0 X_2 (Nat.le_refl _) nob) hx12) ?_
      rintro v6 _ ⟨fv6, rfl⟩
      refine RL.opF (by decide) (opv_loadF rfl Try.one29 rfl fv6 (SL.mod g0 X_2 (Nat.le_refl _) nob) hx12) ?_
      intro v7 fv7
      refine RL.opD (by decide) (opv_assign rfl rfl) ?_
      refine RL.opD (by decide) (opv_assign rfl rfl) ?_
      refine RL.nil ?_
      refine thnN ?_
      refine W.region ?_
      refine RL.opD (by decide) (opv_move rfl rfl) ?_
      refine RL.opD (by decide) (opv_move rfl rfl) ?_
      refine RL.opD (by decide) (opv_move rfl rfl) ?_
      refine RL.opD (by decide) (opv_move rfl rfl) ?_
      obtain ⟨x13, hx13, ho2⟩ := Option.bind_eq_some_iff.1 ho2
      refine RL.op _ (by decide) (opv_call (cap := []) (impl_share_ok _ _ _ _ _ hx13) rfl rfl ⟨rfl, rfl, rfl, trivial⟩ Try.func91 rfl rfl) ?_
      rintro v8 _ ⟨fv8, rfl⟩
      refine RL.opF (by decide) (opv_fneg rfl rfl fv8) ?_
      intro v9 fv9
      obtain ⟨x14, hx14, ho2⟩ := Option.bind_eq_some_iff.1 ho2
      refine RL.op _ (by decide) (opv_call (cap := []) (impl_PhasorOf_ok _ _ _ fv9 _ hx14) rfl rfl ⟨rfl, trivial⟩ Try.func90 rfl rfl) ?_
      rintro v10 _ ⟨fv10, rfl⟩
      refine RL.opD (by decide) (opv_move rfl rfl) ?_
      obtain ⟨x15, hx15, ho2⟩ := Option.bind_eq_some_iff.1 ho2
      refine RL.op _ (by decide) (opv_call (cap := []) (impl_ScaleComplex_ok _ _ _ fv10 _ _ fv7 _ hx15) rfl rfl ⟨rfl, rfl, trivial⟩ Try.func89 rfl rfl) ?_
      rintro v11 _ ⟨fv11, rfl⟩
      obtain ⟨x16, hx16, ho2⟩ := Option.bind_eq_some_iff.1 ho2
      refine RL.op _ (by decide) (opv_call (cap := []) (impl_add_ok _ _ _ fv4 _ _ fv11 _ hx16) rfl rfl ⟨rfl, rfl, trivial⟩ Try.func83 rfl rfl) ?_
      rintro v12 _ ⟨fv12, rfl⟩
      refine RL.opD (by decide) (opv_assign rfl rfl) ?_
      refine RL.nil ?_
      refine blkN ?_
      refine thnN ?_
      refine W.region ?_
      refine RL.opD (by decide) (opv_add rfl rfl rfl) ?_
      refine RL.opD (by decide) (opv_move rfl rfl) ?_
      refine RL.nil ?_
      have eo2 := Option.some.inj ho2
      subst eo2
      refine rndN (s' := (x16, IntKind.wrap .i64 (x8 + 1))) rfl ?_
      exact ⟨v12, ⟨rfl, rfl, rfl, rfl, rfl, rfl, rfl, rfl, rfl, rfl, rfl, rfl, rfl, rfl, trivial⟩, fv12, rfl⟩
     ·rw [if_neg c3] at ho2
      have c3 := eq_false_of_ne_true c3
      refine W.condF rfl c3 ?_
      refine W.exit ?_
      refine thnX ?_
      refine rndX ?_
      refine blkI ?_
      have eo2 := Option.some.inj ho2
      subst eo2
      have ey2 := hy2 _ rfl
      subst ey2
      refine onlyN ?_
      exact ⟨x7, x8, decide (x8 < (a0.length : Int)), v4, rfl, ⟨rfl, rfl, rfl, rfl, rfl, rfl, rfl, rfl, rfl, rfl, rfl, rfl, rfl, rfl, rfl, trivial⟩, fv4, rfl⟩
    rintro φ' _ ⟨x9, x10, x11, v5, rfl, hs4, fv5, rfl⟩
    try dsimp only at ho1
    refine thnN ?_
    refine W.sub hs4 ?_
    refine W.region ?_
    refine RL.opD (by decide) (opv_move rfl rfl) ?_
    refine RL.opD (by decide) (opv_move rfl rfl) ?_
    refine RL.op _ (by decide) (opS_lit1 (K := (kC .f32)) (z := x9) rfl Try.underlying59 Try.einfo45 rfl rfl rfl rfl ⟨_, rfl, fv5⟩) ?_
    rintro v13 hp3 ⟨MT_2, T_2⟩
    obtain ⟨X_3, S_5⟩ := Sep.turn0 X_2 S_4 MT_2 T_2
    obtain ⟨c4, ho1⟩ := of_ite ho1
    refine RL.op _ (by decide) (opS_append (K := (kC .f32)) rfl Try.underlying59 Try.einfo45 rfl rfl rfl rfl (Sep.at (o := ownO (kC .f32) 45 v2 x2) S_5 1 rfl) (ownO.read (Sep.at (o := ownO (kC .f32) 45 v13 [x9]) S_5 0 rfl)) (by decide) (by decide) c4) ?_
    rintro v14 hp4 ⟨MT_3, T_3⟩
    have S_6 : Sep [] h0.size hp3 ([ownO (kC .f32) 45 v2 x2] ++ [ownO (kC .f32) 45 v13 [x9], ownO (kC .f32) 45 (.slice none 0 0) ([] : List ((Option Nat × Option Nat)))]) := Sep.sel S_5 [1, 0, 2] (by decide)
    obtain ⟨X_4, S_7⟩ := Sep.turn X_3 S_6 MT_3 T_3
    refine RL.opD (by decide) (opv_assign rfl rfl) ?_
    refine RL.nil ?_
    refine blkN ?_
    refine thnN ?_
    refine W.region ?_
    refine RL.opD (by decide) (opv_add rfl rfl rfl) ?_
    refine RL.opD (by decide) (opv_move rfl rfl) ?_
    refine RL.nil ?_
    have eo1 := Option.some.inj ho1
    subst eo1
    refine rndN (s' := (x2 ++ [x9], IntKind.wrap .i64 (x3 + 1))) rfl ?_
    exact ⟨v14, ⟨rfl, rfl, rfl, rfl, rfl, rfl, rfl, rfl, trivial⟩, X_4, (Sep.sel S_7 [0, 2] (by decide))⟩
   ·rw [if_neg c2] at ho1
    have c2 := eq_false_of_ne_true c2
    refine W.condF rfl c2 ?_
    refine W.exit ?_
    refine thnX ?_
    refine rndX ?_
    refine blkI ?_
    have eo1 := Option.some.inj ho1
    subst eo1
    have ey1 := hy1 _ rfl
    subst ey1
    refine onlyN ?_
    exact ⟨x3, decide (x3 < (a0.length : Int)), x2, v2, rfl, ⟨rfl, rfl, rfl, rfl, rfl, rfl, rfl, rfl, rfl, trivial⟩, X_2, (Sep.sel S_4 [1, 0] (by decide))⟩
  rintro φ' hp5 ⟨x4, x5, x6, v3, rfl, hs2, X_5, S_8⟩
  try dsimp only at hp
  refine thnN ?_
  refine W.sub hs2 ?_
  refine W.seq ?_
  refine W.region ?_
  refine RL.opD (by decide) (opv_move rfl rfl) ?_
  refine RL.opD (by decide) (opv_assign rfl rfl) ?_
  refine RL.opD (by decide) (opv_assign rfl rfl) ?_
  refine RL.nil ?_
  refine thnN ?_
  refine W.ret ?_
  have er := Option.some.inj hp
  subst er
  exact Rt.two rfl rfl rfl ⟨v3, rfl, X_5, (Sep.sel S_8 [1] (by decide))⟩

set_option maxRecDepth 20000 in
theorem impl_parts_ok (h0 : Heap) (u0 : Value) (a0 : (Option Nat × Option Nat)) (g0 : IsC .f32 u0 a0) (r : ((Option Nat) × (Option Nat))) (hp : impl_parts a0 = some r) : CallsH Try.prog 149 ([u0].toArray ++ [].toArray) h0 (fun v h' => ∃ w0, ∃ w1, v = (.tuple (List.toArray (α := Value) [w0, w1])) ∧ IsF .f64 w0 r.1 ∧ IsF .f64 w1 r.2 ∧ h0 = h') := by
 unfold impl_parts at hp
 refine callsH_of_W (l := [u0]) (cap := []) 10 Try.func149 rfl rfl rfl ?_
 refine W.seq ?_
 refine W.region ?_
 refine RL.opD (by decide) (opv_assign rfl rfl) ?_
 refine RL.opD (by decide) (opv_assign rfl rfl) ?_
 refine RL.nil ?_
 refine thnN ?_
 refine W.seq ?_
 refine W.region ?_
 refine RL.opD (by decide) (opv_move rfl rfl) ?_
 refine RL.opF (by decide) (opv_real rfl rfl g0) ?_
 intro v1 fv1
 refine RL.opF (by decide) (opv_widen rfl (by rw [Try.underlying29]; rfl) Try.underlying43 rfl fv1) ?_
 intro v2 fv2
 refine RL.opD (by decide) (opv_move rfl rfl) ?_
 refine RL.opF (by decide) (opv_imag rfl rfl g0) ?_
 intro v3 fv3
 refine RL.opF (by decide) (opv_widen rfl (by rw [Try.underlying29]; rfl) Try.underlying43 rfl fv3) ?_
 intro v4 fv4
 refine RL.opD (by decide) (opv_assign rfl rfl) ?_
 refine RL.opD (by decide) (opv_assign rfl rfl) ?_
 refine RL.nil ?_
 refine thnN ?_
 refine W.ret ?_
 have er := Option.some.inj hp
 subst er
 exact Rt.two rfl rfl rfl ⟨v2, v4, rfl, fv2, fv4, rfl⟩

set_option maxRecDepth 20000 in
theorem impl_power_ok (h0 : Heap) (u0 : Value) (a0 : (Option Nat × Option Nat)) (g0 : IsC .f32 u0 a0) (r : Option Nat) (hp : impl_power a0 = some r) : CallsH Try.prog 95 ([u0].toArray ++ [].toArray) h0 (fun v h' => IsF .f64 v r ∧ h0 = h') := by
 unfold impl_power at hp
 refine callsH_of_W (l := [u0]) (cap := []) 17 Try.func95 rfl rfl rfl ?_
 refine W.seq ?_
 refine W.region ?_
 refine RL.opD (by decide) (opv_assign rfl rfl) ?_
 refine RL.nil ?_
 refine thnN ?_
 refine W.seq ?_
 refine W.region ?_
 refine RL.opD (by decide) (opv_move rfl rfl) ?_
 obtain ⟨x1, hx1, hp⟩ := Option.bind_eq_some_iff.1 hp
 refine RL.op _ (by decide) (opv_call (cap := []) (impl_parts_ok _ _ _ g0 _ hx1) rfl rfl ⟨rfl, trivial⟩ Try.func149 rfl rfl) ?_
 rintro _ _ ⟨v1, v2, rfl, fv1, fv2, rfl⟩
 refine RL.opD (by decide) (opv_move rfl rfl) ?_
 refine RL.opD (by decide) (opv_extract rfl rfl rfl) ?_
 refine RL.opD (by decide) (opv_extract rfl rfl rfl) ?_
 refine RL.opD (by decide) (opv_assign rfl rfl) ?_
 refine RL.opD (by decide) (opv_assign rfl rfl) ?_
 refine RL.nil ?_
 refine thnN ?_
 refine W.seq ?_
 refine W.region ?_
 refine RL.opD (by decide) (opv_move rfl rfl) ?_
 refine RL.opD (by decide) (opv_move rfl rfl) ?_
 refine RL.opF (by decide) (opv_fop rfl rfl rfl rfl fv1 fv1) ?_
 intro v3 fv3
 refine RL.opD (by decide) (opv_move rfl rfl) ?_
 refine RL.opD (by decide) (opv_move rfl rfl) ?_
 refine RL.opF (by decide) (opv_fop rfl rfl rfl rfl fv2 fv2) ?_
 intro v4 fv4
 refine RL.opF (by decide) (opv_fop rfl rfl rfl rfl fv3 fv4) ?_
 intro v5 fv5
 refine RL.opD (by decide) (opv_assign rfl rfl) ?_
 refine RL.nil ?_
 refine thnN ?_
 refine W.ret ?_
 have er := Option.some.inj hp
 subst er
 exact Rt.one rfl rfl ⟨fv5, rfl⟩

set_option maxRecDepth 20000 in
theorem math_Sqrt_ok (h0 : Heap) (u0 : Value) (a0 : Option Nat) (g0 : IsF .f64 u0 a0) (r : Option Nat) (hp : math_Sqrt a0 = some r) : CallsH Try.prog 151 ([u0].toArray ++ [].toArray) h0 (fun v h' => IsF .f64 v r ∧ h0 = h') := by
 unfold math_Sqrt at hp
 refine callsH_of_W (l := [u0]) (cap := []) 5 Try.func151 rfl rfl rfl ?_
 refine W.seq ?_
 refine W.region ?_
 refine RL.opD (by decide) (opv_assign rfl rfl) ?_
 refine RL.nil ?_
 refine thnN ?_
 refine W.seq ?_
 refine W.region ?_
 refine RL.opD (by decide) (opv_move rfl rfl) ?_
 refine RL.opF (by decide) (opv_ext (vs := [u0]) rfl rfl ⟨rfl, trivial⟩ Try.func172 rfl rfl rfl rfl (fun w => sqrt_run g0 w)) ?_
 intro v1 fv1
 refine RL.opD (by decide) (opv_assign rfl rfl) ?_
 refine RL.nil ?_
 refine thnN ?_
 refine W.ret ?_
 have er := Option.some.inj hp
 subst er
 exact Rt.one rfl rfl ⟨fv1, rfl⟩

set_option maxRecDepth 20000 in
theorem impl_LongOf_ok (h0 : Heap) (u0 : Value) (a0 : (Option Nat × Option Nat)) (g0 : IsC .f32 u0 a0) (r : Option Nat) (hp : impl_LongOf a0 = some r) : CallsH Try.prog 94 ([u0].toArray ++ [].toArray) h0 (fun v h' => IsF .f32 v r ∧ h0 = h') := by
 unfold impl_LongOf at hp
 refine callsH_of_W (l := [u0]) (cap := []) 7 Try.func94 rfl rfl rfl ?_
 refine W.seq ?_
 refine W.region ?_
 refine RL.opD (by decide) (opv_assign rfl rfl) ?_
 refine RL.nil ?_
 refine thnN ?_
 refine W.seq ?_
 refine W.region ?_
 refine RL.opD (by decide) (opv_move rfl rfl) ?_
 obtain ⟨x1, hx1, hp⟩ := Option.bind_eq_some_iff.1 hp
 refine RL.op _ (by decide) (opv_call (cap := []) (impl_power_ok _ _ _ g0 _ hx1) rfl rfl ⟨rfl, trivial⟩ Try.func95 rfl rfl) ?_
 rintro v1 _ ⟨fv1, rfl⟩
 obtain ⟨x2, hx2, hp⟩ := Option.bind_eq_some_iff.1 hp
 refine RL.op _ (by decide) (opv_call (cap := []) (math_Sqrt_ok _ _ _ fv1 _ hx2) rfl rfl ⟨rfl, trivial⟩ Try.func151 rfl rfl) ?_
 rintro v2 _ ⟨fv2, rfl⟩
 obtain ⟨x3, hx3, hp⟩ := Option.bind_eq_some_iff.1 hp
 refine RL.opF (by decide) (opv_f2f rfl (by rw [Try.underlying43]; rfl) Try.underlying29 (by decide) rfl fv2 hx3) ?_
 intro v3 fv3
 refine RL.opD (by decide) (opv_assign rfl rfl) ?_
 refine RL.nil ?_
 refine thnN ?_
 refine W.ret ?_
 have er := Option.some.inj hp
 subst er
 exact Rt.one rfl rfl ⟨fv3, rfl⟩

set_option maxRecDepth 20000 in
theorem laws_r8Apart_ok (h0 : Heap) (u0 : Value) (a0 : (Option Nat × Option Nat)) (g0 : IsC .f32 u0 a0) (u1 : Value) (a1 : (Option Nat × Option Nat)) (g1 : IsC .f32 u1 a1) (r : Option Nat) (hp : laws_r8Apart a0 a1 = some r) : CallsH Try.prog 34 ([u0, u1].toArray ++ [].toArray) h0 (fun v h' => IsF .f64 v r ∧ h0 = h') := by
 unfold laws_r8Apart at hp
 refine callsH_of_W (l := [u0, u1]) (cap := []) 10 Try.func34 rfl rfl rfl ?_
 refine W.seq ?_
 refine W.region ?_
 refine RL.opD (by decide) (opv_assign rfl rfl) ?_
 refine RL.nil ?_
 refine thnN ?_
 refine W.seq ?_
 refine W.region ?_
 refine RL.opD (by decide) (opv_move rfl rfl) ?_
 refine RL.opD (by decide) (opv_move rfl rfl) ?_
 refine RL.op _ (by decide) (opv_cop rfl rfl rfl rfl g0 g1) ?_
 rintro v1 _ ⟨fv1, rfl⟩
 obtain ⟨x1, hx1, hp⟩ := Option.bind_eq_some_iff.1 hp
 refine RL.op _ (by decide) (opv_call (cap := []) (impl_LongOf_ok _ _ _ fv1 _ hx1) rfl rfl ⟨rfl, trivial⟩ Try.func94 rfl rfl) ?_
 rintro v2 _ ⟨fv2, rfl⟩
 refine RL.opF (by decide) (opv_widen rfl (by rw [Try.underlying29]; rfl) Try.underlying43 rfl fv2) ?_
 intro v3 fv3
 refine RL.opD (by decide) (opv_assign rfl rfl) ?_
 refine RL.nil ?_
 refine thnN ?_
 refine W.ret ?_
 have er := Option.some.inj hp
 subst er
 exact Rt.one rfl rfl ⟨fv3, rfl⟩

set_option maxRecDepth 20000 in
theorem impl_PowerOf_ok (h0 : Heap) (u0 : Value) (a0 : (Option Nat × Option Nat)) (g0 : IsC .f32 u0 a0) (r : Option Nat) (hp : impl_PowerOf a0 = some r) : CallsH Try.prog 35 ([u0].toArray ++ [].toArray) h0 (fun v h' => IsF .f32 v r ∧ h0 = h') := by
 unfold impl_PowerOf at hp
 refine callsH_of_W (l := [u0]) (cap := []) 6 Try.func35 rfl rfl rfl ?_
 refine W.seq ?_
 refine W.region ?_
 refine RL.opD (by decide) (opv_assign rfl rfl) ?_
 refine RL.nil ?_
 refine thnN ?_
 refine W.seq ?_
 refine W.region ?_
 refine RL.opD (by decide) (opv_move rfl rfl) ?_
 obtain ⟨x1, hx1, hp⟩ := Option.bind_eq_some_iff.1 hp
 refine RL.op _ (by decide) (opv_call (cap := []) (impl_power_ok _ _ _ g0 _ hx1) rfl rfl ⟨rfl, trivial⟩ Try.func95 rfl rfl) ?_
 rintro v1 _ ⟨fv1, rfl⟩
 obtain ⟨x2, hx2, hp⟩ := Option.bind_eq_some_iff.1 hp
 refine RL.opF (by decide) (opv_f2f rfl (by rw [Try.underlying43]; rfl) Try.underlying29 (by decide) rfl fv1 hx2) ?_
 intro v2 fv2
 refine RL.opD (by decide) (opv_assign rfl rfl) ?_
 refine RL.nil ?_
 refine thnN ?_
 refine W.ret ?_
 have er := Option.some.inj hp
 subst er
 exact Rt.one rfl rfl ⟨fv2, rfl⟩

end Go.H
