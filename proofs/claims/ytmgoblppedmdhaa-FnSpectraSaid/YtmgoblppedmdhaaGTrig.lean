/- Functions of the program: what each computes, as a plain function, and that the call comes to it. Written by a program (wip/gen). -/
import Derived.Test.YtmgoblppedmdhaaGBase
import Derived.Test.YtmgoblppedmdhaaLibB
import Derived.Test.YtmgoblppedmdhaaProg
import Derived.KernelRfl
set_option linter.unusedVariables false
namespace Go.H
open Go Go.Proofs



noncomputable def math_Abs (a0 : Option Nat) : Option (Option Nat) :=
 some (fabs a0)

noncomputable def impl_fraction (a0 : Option Nat) : Option (Option Nat) :=
 ((ftoi .f64 .i64 a0).bind fun (x1 : Int) => (((if (fcmp .lss .f64 (fop .sub .f64 a0 (fofi .f64 x1)) (some 0)) = true then some (fop .add .f64 (fop .sub .f64 a0 (fofi .f64 x1)) (some 4607182418800017408)) else some (fop .sub .f64 a0 (fofi .f64 x1))) : Option (Option Nat)).bind fun (x2 : Option Nat) => some x2))

noncomputable def impl_sine.s0 (x3 : Option Nat) (x4 : Option Nat) (x5 : Option Nat) : Option (((Option Nat) × (Option Nat)) ⊕ ((Option Nat) × (Option Nat) × Bool)) :=
 (if (fcmp .geq .f64 x5 (some 4607182418800017408)) = true then some (.inl (fop .sub .f64 (some 4607182418800017408) (fop .quo .f64 (fop .mul .f64 (fop .mul .f64 (fop .mul .f64 x3 (some 4618760256179416344)) (fop .mul .f64 x3 (some 4618760256179416344))) x4) (fop .mul .f64 (fop .mul .f64 (some 4611686018427387904) x5) (fop .add .f64 (fop .mul .f64 (some 4611686018427387904) x5) (some 4607182418800017408)))), fop .sub .f64 x5 (some 4607182418800017408))) else some (.inr (x4, x5, fcmp .geq .f64 x5 (some 4607182418800017408))))

noncomputable def impl_sine (a0 : Option Nat) : Option (Option Nat) :=
 ((impl_fraction a0).bind fun (x1 : Option Nat) => (((if (fcmp .geq .f64 x1 (some 4602678819172646912)) = true then some (fop .sub .f64 x1 (some 4602678819172646912)) else some x1) : Option (Option Nat)).bind fun (x2 : Option Nat) => (((if (fcmp .gtr .f64 x2 (some 4598175219545276416)) = true then some (fop .sub .f64 (some 4602678819172646912) x2) else some x2) : Option (Option Nat)).bind fun (x3 : Option Nat) => ((loopF (fun (s : ((Option Nat) × (Option Nat))) => impl_sine.s0 x3 s.1 s.2) ((some 4607182418800017408), (some 4620693217682128896))).bind fun (⟨x6, x7, x8⟩ : ((Option Nat) × (Option Nat) × Bool)) => (if (fcmp .geq .f64 x1 (some 4602678819172646912)) = true then some (fneg .f64 (fop .mul .f64 (fop .mul .f64 x3 (some 4618760256179416344)) x6)) else some (fop .mul .f64 (fop .mul .f64 x3 (some 4618760256179416344)) x6))))))

noncomputable def impl_SineTurns (a0 : Option Nat) : Option (Option Nat) :=
 ((impl_IsFinite a0).bind fun (x1 : Bool) => (if (!x1) = true then ((math_NaN).bind fun (x2 : Option Nat) => ((fcv .f64 .f32 x2).bind fun (x3 : Option Nat) => some x3)) else ((math_Abs (wid a0)).bind fun (x4 : Option Nat) => (if (fcmp .geq .f64 x4 (some 4841369599423283200)) = true then some (some 0) else ((impl_sine (wid a0)).bind fun (x5 : Option Nat) => ((fcv .f64 .f32 x5).bind fun (x6 : Option Nat) => some x6))))))

noncomputable def impl_isFinite64 (a0 : Option Nat) : Option Bool :=
 some (fcmp .eql .f64 (fop .sub .f64 a0 a0) (some 0))

noncomputable def impl_PhasorOf.s0 (x6 : Option Nat) (x7 : Int) : Option (((Option Nat) × Int) ⊕ ((Option Nat) × Int × Bool)) :=
 (if (fcmp .geq .f64 x6 (some 4598175219545276416)) = true then some (.inl (fop .sub .f64 x6 (some 4598175219545276416), IntKind.wrap .i64 (x7 + 1))) else some (.inr (x6, x7, fcmp .geq .f64 x6 (some 4598175219545276416))))

noncomputable def impl_PhasorOf (a0 : Option Nat) : Option (Option Nat × Option Nat) :=
 ((impl_isFinite64 a0).bind fun (x1 : Bool) => (if (!x1) = true then ((math_NaN).bind fun (x2 : Option Nat) => ((fcv .f64 .f32 x2).bind fun (x3 : Option Nat) => some (x3, x3))) else ((math_Abs a0).bind fun (x4 : Option Nat) => (if (fcmp .geq .f64 x4 (some 4841369599423283200)) = true then some (some 1065353216, some 0) else ((impl_fraction a0).bind fun (x5 : Option Nat) => ((loopF (fun (s : ((Option Nat) × Int)) => impl_PhasorOf.s0 s.1 s.2) (x5, 0)).bind fun (⟨x8, x9, x10⟩ : ((Option Nat) × Int × Bool)) => ((impl_sine (fop .sub .f64 (some 4598175219545276416) x8)).bind fun (x11 : Option Nat) => ((impl_sine x8).bind fun (x12 : Option Nat) => (((if (x9 == 1) = true then some (fop .sub .f64 (some 0) x12, x11) else (((if (x9 == 2) = true then some (fop .sub .f64 (some 0) x11, fop .sub .f64 (some 0) x12) else (((if (x9 == 3) = true then some (x12, fop .sub .f64 (some 0) x11) else some (x11, x12)) : Option ((Option Nat) × (Option Nat))).bind fun (⟨x17, x18⟩ : ((Option Nat) × (Option Nat))) => some (x17, x18))) : Option ((Option Nat) × (Option Nat))).bind fun (⟨x15, x16⟩ : ((Option Nat) × (Option Nat))) => some (x15, x16))) : Option ((Option Nat) × (Option Nat))).bind fun (⟨x13, x14⟩ : ((Option Nat) × (Option Nat))) => ((fcv .f64 .f32 x13).bind fun (x19 : Option Nat) => ((fcv .f64 .f32 x14).bind fun (x20 : Option Nat) => some (x19, x20))))))))))))

set_option maxRecDepth 20000 in
theorem math_Abs_ok (h0 : Heap) (u0 : Value) (a0 : Option Nat) (g0 : IsF .f64 u0 a0) (r : Option Nat) (hp : math_Abs a0 = some r) : CallsH Try.prog 146 ([u0].toArray ++ [].toArray) h0 (fun v h' => IsF .f64 v r ∧ h0 = h') := by
 unfold math_Abs at hp
 obtain ⟨b0, rfl, hb0, hc0⟩ := g0
 have g0 : IsF .f64 (.float .f64 b0) a0 := ⟨b0, rfl, hb0, hc0⟩
 refine callsH_of_W (l := [(.float .f64 b0)]) (cap := []) 7 Try.func146 rfl rfl rfl ?_
 refine W.seq ?_
 refine W.region ?_
 refine RL.opD (by decide) (opv_assign rfl rfl) ?_
 refine RL.nil ?_
 refine thnN ?_
 refine W.seq ?_
 refine W.region ?_
 refine RL.opD (by decide) (opv_move rfl rfl) ?_
 refine RL.opD (by decide) (opv_ext (vs := [(.float .f64 b0)]) rfl rfl ⟨rfl, trivial⟩ Try.func143 rfl rfl rfl rfl (fun w => raw_bits_run b0 w)) ?_
 refine RL.opD (by decide) (opv_andNot rfl rfl rfl) ?_
 refine RL.opF (by decide) (opv_ext (vs := [(.int .u64 (IntKind.wrap .u64 ((BitVec.ofInt 64 (b0 : Int) &&& ~~~ BitVec.ofInt 64 9223372036854775808).toNat : Int)))]) rfl rfl ⟨rfl, trivial⟩ Try.func171 rfl rfl rfl rfl (fun w => raw_abs_run hb0 hc0 w)) ?_
 intro v1 fv1
 refine RL.opD (by decide) (opv_assign rfl rfl) ?_
 refine RL.nil ?_
 refine thnN ?_
 refine W.ret ?_
 have er := Option.some.inj hp
 subst er
 exact Rt.one rfl rfl ⟨fv1, rfl⟩

set_option maxRecDepth 20000 in
theorem impl_fraction_ok (h0 : Heap) (u0 : Value) (a0 : Option Nat) (g0 : IsF .f64 u0 a0) (r : Option Nat) (hp : impl_fraction a0 = some r) : CallsH Try.prog 147 ([u0].toArray ++ [].toArray) h0 (fun v h' => IsF .f64 v r ∧ h0 = h') := by
 unfold impl_fraction at hp
 refine callsH_of_W (l := [u0]) (cap := []) 14 Try.func147 rfl rfl rfl ?_
 refine W.seq ?_
 refine W.region ?_
 refine RL.opD (by decide) (opv_assign rfl rfl) ?_
 refine RL.nil ?_
 refine thnN ?_
 refine W.seq ?_
 refine W.region ?_
 refine RL.opD (by decide) (opv_move rfl rfl) ?_
 refine RL.opD (by decide) (opv_move rfl rfl) ?_
 obtain ⟨x1, hx1, hp⟩ := Option.bind_eq_some_iff.1 hp
 refine RL.opD (by decide) (opv_f2i rfl (by rw [Try.underlying43]; rfl) Try.underlying2 rfl g0 hx1) ?_
 refine RL.opF (by decide) (opv_i2f rfl (by rw [Try.underlying2]; rfl) Try.underlying43 rfl) ?_
 intro v1 fv1
 refine RL.opF (by decide) (opv_fop rfl rfl rfl rfl g0 fv1) ?_
 intro v2 fv2
 refine RL.opD (by decide) (opv_assign rfl rfl) ?_
 refine RL.nil ?_
 refine thnN ?_
 refine W.seq ?_
 refine W.seq ?_
 refine W.region ?_
 refine RL.opD (by decide) (opv_move rfl rfl) ?_
 refine RL.opD (by decide) (opv_fcmp rfl rfl rfl rfl fv2 (isF_lit .f64 0 (by decide) (by decide))) ?_
 refine RL.nil ?_
 refine thnN ?_
 obtain ⟨x2, hy1, hp⟩ := Option.bind_eq_some_iff.1 hp
 refine W.cut (fun φ' h' => ∃ v3, Fr.sub [(0, u0), (2, (.float .f64 0)), (10, (.bool (fcmp .lss .f64 (fop .sub .f64 a0 (fofi .f64 x1)) (some 0)))), (3, v3)] φ' ∧ IsF .f64 v3 x2 ∧ h0 = h') ?_ ?_
 ·by_cases c1 : (fcmp .lss .f64 (fop .sub .f64 a0 (fofi .f64 x1)) (some 0)) = true
  ·rw [if_pos c1] at hy1
   refine W.condT rfl c1 ?_
   refine W.region ?_
   refine RL.opD (by decide) (opv_move rfl rfl) ?_
   refine RL.opF (by decide) (opv_fop rfl rfl rfl rfl fv2 (isF_lit .f64 4607182418800017408 (by decide) (by decide))) ?_
   intro v4 fv4
   refine RL.opD (by decide) (opv_assign rfl rfl) ?_
   refine RL.nil ?_
   have ey1 := Option.some.inj hy1
   subst ey1
   refine onlyN ?_
   exact ⟨v4, ⟨rfl, rfl, rfl, rfl, trivial⟩, fv4, rfl⟩
  ·rw [if_neg c1] at hy1
   have c1 := eq_false_of_ne_true c1
   refine W.condF rfl c1 ?_
   refine W.skip ?_
   have ey1 := Option.some.inj hy1
   subst ey1
   refine onlyN ?_
   exact ⟨v2, ⟨rfl, rfl, rfl, rfl, trivial⟩, fv2, rfl⟩
 rintro φ' _ ⟨v3, hs1, fv3, rfl⟩
 refine thnN ?_
 refine W.sub hs1 ?_
 refine W.seq ?_
 refine W.region ?_
 refine RL.opD (by decide) (opv_move rfl rfl) ?_
 refine RL.opD (by decide) (opv_assign rfl rfl) ?_
 refine RL.nil ?_
 refine thnN ?_
 refine W.ret ?_
 have er := Option.some.inj hp
 subst er
 exact Rt.one rfl rfl ⟨fv3, rfl⟩

set_option maxRecDepth 20000 in
theorem impl_sine_ok (h0 : Heap) (u0 : Value) (a0 : Option Nat) (g0 : IsF .f64 u0 a0) (r : Option Nat) (hp : impl_sine a0 = some r) : CallsH Try.prog 148 ([u0].toArray ++ [].toArray) h0 (fun v h' => IsF .f64 v r ∧ h0 = h') := by
 unfold impl_sine at hp
 refine callsH_of_W (l := [u0]) (cap := []) 48 Try.func148 rfl rfl rfl ?_
 refine W.seq ?_
 refine W.region ?_
 refine RL.opD (by decide) (opv_assign rfl rfl) ?_
 refine RL.nil ?_
 refine thnN ?_
 refine W.seq ?_
 refine W.region ?_
 refine RL.opD (by decide) (opv_move rfl rfl) ?_
 obtain ⟨x1, hx1, hp⟩ := Option.bind_eq_some_iff.1 hp
 refine RL.op _ (by decide) (opv_call (cap := []) (impl_fraction_ok _ _ _ g0 _ hx1) rfl rfl ⟨rfl, trivial⟩ Try.func147 rfl rfl) ?_
 rintro v1 _ ⟨fv1, rfl⟩
 refine RL.opD (by decide) (opv_assign rfl rfl) ?_
 refine RL.nil ?_
 refine thnN ?_
 refine W.seq ?_
 refine W.region ?_
 refine RL.opD (by decide) (opv_move rfl rfl) ?_
 refine RL.opD (by decide) (opv_fcmp rfl rfl rfl rfl fv1 (isF_lit .f64 4602678819172646912 (by decide) (by decide))) ?_
 refine RL.opD (by decide) (opv_assign rfl rfl) ?_
 refine RL.nil ?_
 refine thnN ?_
 refine W.seq ?_
 refine W.seq ?_
 refine W.region ?_
 refine RL.opD (by decide) (opv_move rfl rfl) ?_
 refine RL.nil ?_
 refine thnN ?_
 obtain ⟨x2, hy1, hp⟩ := Option.bind_eq_some_iff.1 hp
 refine W.cut (fun φ' h' => ∃ v2, Fr.sub [(0, u0), (2, (.float .f64 0)), (4, (.bool (fcmp .geq .f64 x1 (some 4602678819172646912)))), (13, (.bool (fcmp .geq .f64 x1 (some 4602678819172646912)))), (3, v2)] φ' ∧ IsF .f64 v2 x2 ∧ h0 = h') ?_ ?_
 ·by_cases c1 : (fcmp .geq .f64 x1 (some 4602678819172646912)) = true
  ·rw [if_pos c1] at hy1
   refine W.condT rfl c1 ?_
   refine W.region ?_
   refine RL.opD (by decide) (opv_move rfl rfl) ?_
   refine RL.opF (by decide) (opv_fop rfl rfl rfl rfl fv1 (isF_lit .f64 4602678819172646912 (by decide) (by decide))) ?_
   intro v3 fv3
   refine RL.opD (by decide) (opv_assign rfl rfl) ?_
   refine RL.nil ?_
   have ey1 := Option.some.inj hy1
   subst ey1
   refine onlyN ?_
   exact ⟨v3, ⟨rfl, rfl, rfl, rfl, rfl, trivial⟩, fv3, rfl⟩
  ·rw [if_neg c1] at hy1
   have c1 := eq_false_of_ne_true c1
   refine W.condF rfl c1 ?_
   refine W.skip ?_
   have ey1 := Option.some.inj hy1
   subst ey1
   refine onlyN ?_
   exact ⟨v1, ⟨rfl, rfl, rfl, rfl, rfl, trivial⟩, fv1, rfl⟩
 rintro φ' _ ⟨v2, hs1, fv2, rfl⟩
 refine thnN ?_
 refine W.sub hs1 ?_
 refine W.seq ?_
 refine W.seq ?_
 refine W.region ?_
 refine RL.opD (by decide) (opv_move rfl rfl) ?_
 refine RL.opD (by decide) (opv_fcmp rfl rfl rfl rfl fv2 (isF_lit .f64 4598175219545276416 (by decide) (by decide))) ?_
 refine RL.nil ?_
 refine thnN ?_
 obtain ⟨x3, hy2, hp⟩ := Option.bind_eq_some_iff.1 hp
 refine W.cut (fun φ' h' => ∃ v4, Fr.sub [(0, u0), (2, (.float .f64 0)), (4, (.bool (fcmp .geq .f64 x1 (some 4602678819172646912)))), (13, (.bool (fcmp .geq .f64 x1 (some 4602678819172646912)))), (17, (.bool (fcmp .gtr .f64 x2 (some 4598175219545276416)))), (3, v4)] φ' ∧ IsF .f64 v4 x3 ∧ h0 = h') ?_ ?_
 ·by_cases c2 : (fcmp .gtr .f64 x2 (some 4598175219545276416)) = true
  ·rw [if_pos c2] at hy2
   refine W.condT rfl c2 ?_
   refine W.region ?_
   refine RL.opD (by decide) (opv_move rfl rfl) ?_
   refine RL.opF (by decide) (opv_fop rfl rfl rfl rfl (isF_lit .f64 4602678819172646912 (by decide) (by decide)) fv2) ?_
   intro v5 fv5
   refine RL.opD (by decide) (opv_assign rfl rfl) ?_
   refine RL.nil ?_
   have ey2 := Option.some.inj hy2
   subst ey2
   refine onlyN ?_
   exact ⟨v5, ⟨rfl, rfl, rfl, rfl, rfl, rfl, trivial⟩, fv5, rfl⟩
  ·rw [if_neg c2] at hy2
   have c2 := eq_false_of_ne_true c2
   refine W.condF rfl c2 ?_
   refine W.skip ?_
   have ey2 := Option.some.inj hy2
   subst ey2
   refine onlyN ?_
   exact ⟨v2, ⟨rfl, rfl, rfl, rfl, rfl, rfl, trivial⟩, fv2, rfl⟩
 rintro φ' _ ⟨v4, hs2, fv4, rfl⟩
 refine thnN ?_
 refine W.sub hs2 ?_
 refine W.seq ?_
 refine W.region ?_
 refine RL.opD (by decide) (opv_move rfl rfl) ?_
 refine RL.opF (by decide) (opv_fop rfl rfl rfl rfl fv4 (isF_lit .f64 4618760256179416344 (by decide) (by decide))) ?_
 intro v6 fv6
 refine RL.opD (by decide) (opv_assign rfl rfl) ?_
 refine RL.nil ?_
 refine thnN ?_
 refine W.seq ?_
 refine W.region ?_
 refine RL.opD (by decide) (opv_move rfl rfl) ?_
 refine RL.opD (by decide) (opv_move rfl rfl) ?_
 refine RL.opF (by decide) (opv_fop rfl rfl rfl rfl fv6 fv6) ?_
 intro v7 fv7
 refine RL.opD (by decide) (opv_assign rfl rfl) ?_
 refine RL.nil ?_
 refine thnN ?_
 refine W.seq ?_
 refine W.region ?_
 refine RL.opD (by decide) (opv_assign rfl rfl) ?_
 refine RL.nil ?_
 refine thnN ?_
 refine W.seq ?_
 refine W.seq ?_
 refine W.region ?_
 refine RL.opD (by decide) (opv_assign rfl rfl) ?_
 refine RL.nil ?_
 refine thnN ?_
 obtain ⟨y3, hy3, hp⟩ := Option.bind_eq_some_iff.1 hp
 refine W.cut (fun φ' h' => ∃ x6, ∃ x7, ∃ x8, ∃ v10, ∃ v11, y3 = (x6, x7, x8) ∧ Fr.sub [(0, u0), (2, (.float .f64 0)), (4, (.bool (fcmp .geq .f64 x1 (some 4602678819172646912)))), (13, (.bool (fcmp .geq .f64 x1 (some 4602678819172646912)))), (17, (.bool (fcmp .gtr .f64 x2 (some 4598175219545276416)))), (3, v4), (5, v6), (6, v7), (7, v10), (8, v11), (26, (.bool x8))] φ' ∧ IsF .f64 v10 x6 ∧ IsF .f64 v11 x7 ∧ h0 = h') ?_ ?_
 ·refine W.block ?_
  refine W.loopS (fun (s : ((Option Nat) × (Option Nat))) φ' h' => ∃ v8, ∃ v9, Fr.sub [(0, u0), (2, (.float .f64 0)), (4, (.bool (fcmp .geq .f64 x1 (some 4602678819172646912)))), (13, (.bool (fcmp .geq .f64 x1 (some 4602678819172646912)))), (17, (.bool (fcmp .gtr .f64 x2 (some 4598175219545276416)))), (3, v4), (5, v6), (6, v7), (7, v8), (8, v9)] φ' ∧ IsF .f64 v8 s.1 ∧ IsF .f64 v9 s.2 ∧ h0 = h') hy3 ⟨(.float .f64 4607182418800017408), (.float .f64 4620693217682128896), ⟨rfl, rfl, rfl, rfl, rfl, rfl, rfl, rfl, rfl, rfl, trivial⟩, (isF_lit .f64 4607182418800017408 (by decide) (by decide)), (isF_lit .f64 4620693217682128896 (by decide) (by decide)), rfl⟩ ?_
  rintro ⟨x4, x5⟩ φ' _ o1 ⟨v8, v9, hs3, fv8, fv9, rfl⟩ ho1 hy1
  have hs3 : Fr.sub [(0, u0), (2, (.float .f64 0)), (4, (.bool (fcmp .geq .f64 x1 (some 4602678819172646912)))), (13, (.bool (fcmp .geq .f64 x1 (some 4602678819172646912)))), (17, (.bool (fcmp .gtr .f64 x2 (some 4598175219545276416)))), (3, v4), (5, v6), (6, v7), (7, v8), (8, v9)] φ' := hs3
  have fv8 : IsF .f64 v8 x4 := fv8
  have fv9 : IsF .f64 v9 x5 := fv9
  have ho1 : impl_sine.s0 x3 x4 x5 = some o1 := ho1
  unfold impl_sine.s0 at ho1
  refine W.sub hs3 ?_
  refine W.seq ?_
  refine W.seq ?_
  refine W.region ?_
  refine RL.opD (by decide) (opv_move rfl rfl) ?_
  refine RL.opD (by decide) (opv_fcmp rfl rfl rfl rfl fv9 (isF_lit .f64 4607182418800017408 (by decide) (by decide))) ?_
  refine RL.nil ?_
  refine thnN ?_
  by_cases c3 : (fcmp .geq .f64 x5 (some 4607182418800017408)) = true
  ·rw [if_pos c3] at ho1
   refine W.condT rfl c3 ?_
   refine W.skip ?_
   refine thnN ?_
   refine W.seq ?_
   refine W.block ?_
   refine W.region ?_
   refine RL.opD (by decide) (opv_move rfl rfl) ?_
   refine RL.opD (by decide) (opv_move rfl rfl) ?_
   refine RL.opF (by decide) (opv_fop rfl rfl rfl rfl fv7 fv8) ?_
   intro v12 fv12
   refine RL.opD (by decide) (opv_move rfl rfl) ?_
   refine RL.opF (by decide) (opv_fop rfl rfl rfl rfl (isF_lit .f64 4611686018427387904 (by decide) (by decide)) fv9) ?_
   intro v13 fv13
   refine RL.opD (by decide) (opv_move rfl rfl) ?_
   refine RL.opF (by decide) (opv_fop rfl rfl rfl rfl (isF_lit .f64 4611686018427387904 (by decide) (by decide)) fv9) ?_
   intro v14 fv14
   refine RL.opF (by decide) (opv_fop rfl rfl rfl rfl fv14 (isF_lit .f64 4607182418800017408 (by decide) (by decide))) ?_
   intro v15 fv15
   refine RL.opF (by decide) (opv_fop rfl rfl rfl rfl fv13 fv15) ?_
   intro v16 fv16
   refine RL.opF (by decide) (opv_fop rfl rfl rfl rfl fv12 fv16) ?_
   intro v17 fv17
   refine RL.opF (by decide) (opv_fop rfl rfl rfl rfl (isF_lit .f64 4607182418800017408 (by decide) (by decide)) fv17) ?_
   intro v18 fv18
   refine RL.opD (by decide) (opv_assign rfl rfl) ?_
   refine RL.nil ?_
   refine blkN ?_
   refine thnN ?_
   refine W.region ?_
   refine RL.opD (by decide) (opv_move rfl rfl) ?_
   refine RL.opF (by decide) (opv_fop rfl rfl rfl rfl fv9 (isF_lit .f64 4607182418800017408 (by decide) (by decide))) ?_
   intro v19 fv19
   refine RL.opD (by decide) (opv_assign rfl rfl) ?_
   refine RL.nil ?_
   have eo1 := Option.some.inj ho1
   subst eo1
   refine rndN (s' := (fop .sub .f64 (some 4607182418800017408) (fop .quo .f64 (fop .mul .f64 (fop .mul .f64 (fop .mul .f64 x3 (some 4618760256179416344)) (fop .mul .f64 x3 (some 4618760256179416344))) x4) (fop .mul .f64 (fop .mul .f64 (some 4611686018427387904) x5) (fop .add .f64 (fop .mul .f64 (some 4611686018427387904) x5) (some 4607182418800017408)))), fop .sub .f64 x5 (some 4607182418800017408))) rfl ?_
   exact ⟨v18, v19, ⟨rfl, rfl, rfl, rfl, rfl, rfl, rfl, rfl, rfl, rfl, trivial⟩, fv18, fv19, rfl⟩
  ·rw [if_neg c3] at ho1
   have c3 := eq_false_of_ne_true c3
   refine W.condF rfl c3 ?_
   refine W.exit ?_
   refine thnX ?_
   refine rndX ?_
   refine blkI ?_
   have eo1 := Option.some.inj ho1
   subst eo1
   have ey3 := hy1 _ rfl
   subst ey3
   refine onlyN ?_
   exact ⟨x4, x5, fcmp .geq .f64 x5 (some 4607182418800017408), v8, v9, rfl, ⟨rfl, rfl, rfl, rfl, rfl, rfl, rfl, rfl, rfl, rfl, rfl, trivial⟩, fv8, fv9, rfl⟩
 rintro φ' _ ⟨x6, x7, x8, v10, v11, rfl, hs4, fv10, fv11, rfl⟩
 try dsimp only at hp
 refine thnN ?_
 refine W.sub hs4 ?_
 refine W.seq ?_
 refine W.seq ?_
 refine W.region ?_
 refine RL.opD (by decide) (opv_move rfl rfl) ?_
 refine RL.nil ?_
 refine thnN ?_
 by_cases c4 : (fcmp .geq .f64 x1 (some 4602678819172646912)) = true
 ·rw [if_pos c4] at hp
  refine W.condT rfl c4 ?_
  refine W.seq ?_
  refine W.region ?_
  refine RL.opD (by decide) (opv_move rfl rfl) ?_
  refine RL.opD (by decide) (opv_move rfl rfl) ?_
  refine RL.opF (by decide) (opv_fop rfl rfl rfl rfl fv6 fv10) ?_
  intro v20 fv20
  refine RL.opF (by decide) (opv_fneg rfl rfl fv20) ?_
  intro v21 fv21
  refine RL.opD (by decide) (opv_assign rfl rfl) ?_
  refine RL.nil ?_
  refine thnN ?_
  refine W.ret ?_
  refine thnR ?_
  have er := Option.some.inj hp
  subst er
  exact Rt.one rfl rfl ⟨fv21, rfl⟩
 ·rw [if_neg c4] at hp
  have c4 := eq_false_of_ne_true c4
  refine W.condF rfl c4 ?_
  refine W.skip ?_
  refine thnN ?_
  refine W.seq ?_
  refine W.region ?_
  refine RL.opD (by decide) (opv_move rfl rfl) ?_
  refine RL.opD (by decide) (opv_move rfl rfl) ?_
  refine RL.opF (by decide) (opv_fop rfl rfl rfl rfl fv6 fv10) ?_
  intro v22 fv22
  refine RL.opD (by decide) (opv_assign rfl rfl) ?_
  refine RL.nil ?_
  refine thnN ?_
  refine W.ret ?_
  have er := Option.some.inj hp
  subst er
  exact Rt.one rfl rfl ⟨fv22, rfl⟩

set_option maxRecDepth 20000 in
theorem impl_SineTurns_ok (h0 : Heap) (u0 : Value) (a0 : Option Nat) (g0 : IsF .f32 u0 a0) (r : Option Nat) (hp : impl_SineTurns a0 = some r) : CallsH Try.prog 136 ([u0].toArray ++ [].toArray) h0 (fun v h' => IsF .f32 v r ∧ h0 = h') := by
 unfold impl_SineTurns at hp
 refine callsH_of_W (l := [u0]) (cap := []) 16 Try.func136 rfl rfl rfl ?_
 refine W.seq ?_
 refine W.region ?_
 refine RL.opD (by decide) (opv_assign rfl rfl) ?_
 refine RL.nil ?_
 refine thnN ?_
 refine W.seq ?_
 refine W.seq ?_
 refine W.region ?_
 refine RL.opD (by decide) (opv_move rfl rfl) ?_
 obtain ⟨x1, hx1, hp⟩ := Option.bind_eq_some_iff.1 hp
 refine RL.op _ (by decide) (opv_call (cap := []) (impl_IsFinite_ok _ _ _ g0 _ hx1) rfl rfl ⟨rfl, trivial⟩ Try.func75 rfl rfl) ?_
 rintro _ _ ⟨rfl, rfl⟩
 refine RL.opD (by decide) (opv_not rfl rfl) ?_
 refine RL.nil ?_
 refine thnN ?_
 by_cases c1 : (!x1) = true
 ·rw [if_pos c1] at hp
  refine W.condT rfl c1 ?_
  refine W.seq ?_
  refine W.region ?_
  obtain ⟨x2, hx2, hp⟩ := Option.bind_eq_some_iff.1 hp
  refine RL.op _ (by decide) (opv_call (cap := []) (math_NaN_ok _  _ hx2) rfl rfl trivial Try.func145 rfl rfl) ?_
  rintro v1 _ ⟨fv1, rfl⟩
  obtain ⟨x3, hx3, hp⟩ := Option.bind_eq_some_iff.1 hp
  refine RL.opF (by decide) (opv_f2f rfl (by rw [Try.underlying43]; rfl) Try.underlying29 (by decide) rfl fv1 hx3) ?_
  intro v2 fv2
  refine RL.opD (by decide) (opv_assign rfl rfl) ?_
  refine RL.nil ?_
  refine thnN ?_
  refine W.ret ?_
  refine thnR ?_
  have er := Option.some.inj hp
  subst er
  exact Rt.one rfl rfl ⟨fv2, rfl⟩
 ·rw [if_neg c1] at hp
  have c1 := eq_false_of_ne_true c1
  refine W.condF rfl c1 ?_
  refine W.skip ?_
  refine thnN ?_
  refine W.seq ?_
  refine W.seq ?_
  refine W.region ?_
  refine RL.opD (by decide) (opv_move rfl rfl) ?_
  refine RL.opF (by decide) (opv_widen rfl (by rw [Try.underlying29]; rfl) Try.underlying43 rfl g0) ?_
  intro v3 fv3
  obtain ⟨x4, hx4, hp⟩ := Option.bind_eq_some_iff.1 hp
  refine RL.op _ (by decide) (opv_call (cap := []) (math_Abs_ok _ _ _ fv3 _ hx4) rfl rfl ⟨rfl, trivial⟩ Try.func146 rfl rfl) ?_
  rintro v4 _ ⟨fv4, rfl⟩
  refine RL.opD (by decide) (opv_fcmp rfl rfl rfl rfl fv4 (isF_lit .f64 4841369599423283200 (by decide) (by decide))) ?_
  refine RL.nil ?_
  refine thnN ?_
  by_cases c2 : (fcmp .geq .f64 x4 (some 4841369599423283200)) = true
  ·rw [if_pos c2] at hp
   refine W.condT rfl c2 ?_
   refine W.seq ?_
   refine W.region ?_
   refine RL.opD (by decide) (opv_assign rfl rfl) ?_
   refine RL.nil ?_
   refine thnN ?_
   refine W.ret ?_
   refine thnR ?_
   have er := Option.some.inj hp
   subst er
   exact Rt.one rfl rfl ⟨(isF_lit .f32 0 (by decide) (by decide)), rfl⟩
  ·rw [if_neg c2] at hp
   have c2 := eq_false_of_ne_true c2
   refine W.condF rfl c2 ?_
   refine W.skip ?_
   refine thnN ?_
   refine W.seq ?_
   refine W.region ?_
   refine RL.opD (by decide) (opv_move rfl rfl) ?_
   refine RL.opF (by decide) (opv_widen rfl (by rw [Try.underlying29]; rfl) Try.underlying43 rfl g0) ?_
   intro v5 fv5
   obtain ⟨x5, hx5, hp⟩ := Option.bind_eq_some_iff.1 hp
   refine RL.op _ (by decide) (opv_call (cap := []) (impl_sine_ok _ _ _ fv5 _ hx5) rfl rfl ⟨rfl, trivial⟩ Try.func148 rfl rfl) ?_
   rintro v6 _ ⟨fv6, rfl⟩
   obtain ⟨x6, hx6, hp⟩ := Option.bind_eq_some_iff.1 hp
   refine RL.opF (by decide) (opv_f2f rfl (by rw [Try.underlying43]; rfl) Try.underlying29 (by decide) rfl fv6 hx6) ?_
   intro v7 fv7
   refine RL.opD (by decide) (opv_assign rfl rfl) ?_
   refine RL.nil ?_
   refine thnN ?_
   refine W.ret ?_
   have er := Option.some.inj hp
   subst er
   exact Rt.one rfl rfl ⟨fv7, rfl⟩

set_option maxRecDepth 20000 in
theorem impl_isFinite64_ok (h0 : Heap) (u0 : Value) (a0 : Option Nat) (g0 : IsF .f64 u0 a0) (r : Bool) (hp : impl_isFinite64 a0 = some r) : CallsH Try.prog 144 ([u0].toArray ++ [].toArray) h0 (fun v h' => v = (.bool r) ∧ h0 = h') := by
 unfold impl_isFinite64 at hp
 refine callsH_of_W (l := [u0]) (cap := []) 7 Try.func144 rfl rfl rfl ?_
 refine W.seq ?_
 refine W.region ?_
 refine RL.opD (by decide) (opv_assign rfl rfl) ?_
 refine RL.nil ?_
 refine thnN ?_
 refine W.seq ?_
 refine W.region ?_
 refine RL.opD (by decide) (opv_move rfl rfl) ?_
 refine RL.opD (by decide) (opv_move rfl rfl) ?_
 refine RL.opF (by decide) (opv_fop rfl rfl rfl rfl g0 g0) ?_
 intro v1 fv1
 refine RL.opD (by decide) (opv_fcmp rfl rfl rfl rfl fv1 (isF_lit .f64 0 (by decide) (by decide))) ?_
 refine RL.opD (by decide) (opv_assign rfl rfl) ?_
 refine RL.nil ?_
 refine thnN ?_
 refine W.ret ?_
 have er := Option.some.inj hp
 subst er
 exact Rt.one rfl rfl ⟨rfl, rfl⟩

set_option maxHeartbeats 4000000 in
set_option maxRecDepth 20000 in
theorem impl_PhasorOf_ok (h0 : Heap) (u0 : Value) (a0 : Option Nat) (g0 : IsF .f64 u0 a0) (r : (Option Nat × Option Nat)) (hp : impl_PhasorOf a0 = some r) : CallsH Try.prog 90 ([u0].toArray ++ [].toArray) h0 (fun v h' => IsC .f32 v r ∧ h0 = h') := by
 unfold impl_PhasorOf at hp
 refine callsH_of_W (l := [u0]) (cap := []) 54 Try.func90 rfl rfl rfl ?_
 refine W.seq ?_
 refine W.region ?_
 refine RL.opD (by decide) (opv_assign rfl rfl) ?_
 refine RL.nil ?_
 refine thnN ?_
 refine W.seq ?_
 refine W.seq ?_
 refine W.region ?_
 refine RL.opD (by decide) (opv_move rfl rfl) ?_
 obtain ⟨x1, hx1, hp⟩ := Option.bind_eq_some_iff.1 hp
 refine RL.op _ (by decide) (opv_call (cap := []) (impl_isFinite64_ok _ _ _ g0 _ hx1) rfl rfl ⟨rfl, trivial⟩ Try.func144 rfl rfl) ?_
 rintro _ _ ⟨rfl, rfl⟩
 refine RL.opD (by decide) (opv_not rfl rfl) ?_
 refine RL.nil ?_
 refine thnN ?_
 by_cases c1 : (!x1) = true
 ·rw [if_pos c1] at hp
  refine W.condT rfl c1 ?_
  refine W.seq ?_
  refine W.region ?_
  obtain ⟨x2, hx2, hp⟩ := Option.bind_eq_some_iff.1 hp
  refine RL.op _ (by decide) (opv_call (cap := []) (math_NaN_ok _  _ hx2) rfl rfl trivial Try.func145 rfl rfl) ?_
  rintro v1 _ ⟨fv1, rfl⟩
  obtain ⟨x3, hx3, hp⟩ := Option.bind_eq_some_iff.1 hp
  refine RL.opF (by decide) (opv_f2f rfl (by rw [Try.underlying43]; rfl) Try.underlying29 (by decide) rfl fv1 hx3) ?_
  intro v2 fv2
  refine RL.opD (by decide) (opv_assign rfl rfl) ?_
  refine RL.nil ?_
  refine thnN ?_
  refine W.seq ?_
  refine W.region ?_
  refine RL.opD (by decide) (opv_move rfl rfl) ?_
  refine RL.opD (by decide) (opv_move rfl rfl) ?_
  refine RL.op _ (by decide) (opv_complex rfl rfl rfl fv2 fv2) ?_
  rintro v3 _ ⟨fv3, rfl⟩
  refine RL.opD (by decide) (opv_assign rfl rfl) ?_
  refine RL.nil ?_
  refine thnN ?_
  refine W.ret ?_
  refine thnR ?_
  have er := Option.some.inj hp
  subst er
  exact Rt.one rfl rfl ⟨fv3, rfl⟩
 ·rw [if_neg c1] at hp
  have c1 := eq_false_of_ne_true c1
  refine W.condF rfl c1 ?_
  refine W.skip ?_
  refine thnN ?_
  refine W.seq ?_
  refine W.seq ?_
  refine W.region ?_
  refine RL.opD (by decide) (opv_move rfl rfl) ?_
  obtain ⟨x4, hx4, hp⟩ := Option.bind_eq_some_iff.1 hp
  refine RL.op _ (by decide) (opv_call (cap := []) (math_Abs_ok _ _ _ g0 _ hx4) rfl rfl ⟨rfl, trivial⟩ Try.func146 rfl rfl) ?_
  rintro v4 _ ⟨fv4, rfl⟩
  refine RL.opD (by decide) (opv_fcmp rfl rfl rfl rfl fv4 (isF_lit .f64 4841369599423283200 (by decide) (by decide))) ?_
  refine RL.nil ?_
  refine thnN ?_
  by_cases c2 : (fcmp .geq .f64 x4 (some 4841369599423283200)) = true
  ·rw [if_pos c2] at hp
   refine W.condT rfl c2 ?_
   refine W.seq ?_
   refine W.region ?_
   refine RL.opD (by decide) (opv_assign rfl rfl) ?_
   refine RL.nil ?_
   refine thnN ?_
   refine W.ret ?_
   refine thnR ?_
   have er := Option.some.inj hp
   subst er
   exact Rt.one rfl rfl ⟨(isC_lit .f32 1065353216 0 (by decide) (by decide) (by decide) (by decide)), rfl⟩
  ·rw [if_neg c2] at hp
   have c2 := eq_false_of_ne_true c2
   refine W.condF rfl c2 ?_
   refine W.skip ?_
   refine thnN ?_
   refine W.seq ?_
   refine W.region ?_
   refine RL.opD (by decide) (opv_move rfl rfl) ?_
   obtain ⟨x5, hx5, hp⟩ := Option.bind_eq_some_iff.1 hp
   refine RL.op _ (by decide) (opv_call (cap := []) (impl_fraction_ok _ _ _ g0 _ hx5) rfl rfl ⟨rfl, trivial⟩ Try.func147 rfl rfl) ?_
   rintro v5 _ ⟨fv5, rfl⟩
   refine RL.opD (by decide) (opv_assign rfl rfl) ?_
   refine RL.nil ?_
   refine thnN ?_
   refine W.seq ?_
   refine W.region ?_
   refine RL.opD (by decide) (opv_assign rfl rfl) ?_
   refine RL.nil ?_
   refine thnN ?_
   refine W.seq ?_
   obtain ⟨y1, hy1, hp⟩ := Option.bind_eq_some_iff.1 hp
   refine W.cut (fun φ' h' => ∃ x8, ∃ x9, ∃ x10, ∃ v7, y1 = (x8, x9, x10) ∧ Fr.sub [(0, u0), (2, (.complex .f32 0 0)), (10, (.bool (!x1))), (18, (.bool (fcmp .geq .f64 x4 (some 4841369599423283200)))), (4, v7), (5, (.int .i64 x9)), (22, (.bool x10))] φ' ∧ IsF .f64 v7 x8 ∧ h0 = h') ?_ ?_
   ·refine W.block ?_
    refine W.loopS (fun (s : ((Option Nat) × Int)) φ' h' => ∃ v6, Fr.sub [(0, u0), (2, (.complex .f32 0 0)), (10, (.bool (!x1))), (18, (.bool (fcmp .geq .f64 x4 (some 4841369599423283200)))), (4, v6), (5, (.int .i64 s.2))] φ' ∧ IsF .f64 v6 s.1 ∧ h0 = h') hy1 ⟨v5, ⟨rfl, rfl, rfl, rfl, rfl, rfl, trivial⟩, fv5, rfl⟩ ?_
    rintro ⟨x6, x7⟩ φ' _ o1 ⟨v6, hs1, fv6, rfl⟩ ho1 hy1
    have hs1 : Fr.sub [(0, u0), (2, (.complex .f32 0 0)), (10, (.bool (!x1))), (18, (.bool (fcmp .geq .f64 x4 (some 4841369599423283200)))), (4, v6), (5, (.int .i64 x7))] φ' := hs1
    have fv6 : IsF .f64 v6 x6 := fv6
    have ho1 : impl_PhasorOf.s0 x6 x7 = some o1 := ho1
    unfold impl_PhasorOf.s0 at ho1
    refine W.sub hs1 ?_
    refine W.seq ?_
    refine W.seq ?_
    refine W.region ?_
    refine RL.opD (by decide) (opv_move rfl rfl) ?_
    refine RL.opD (by decide) (opv_fcmp rfl rfl rfl rfl fv6 (isF_lit .f64 4598175219545276416 (by decide) (by decide))) ?_
    refine RL.nil ?_
    refine thnN ?_
    by_cases c3 : (fcmp .geq .f64 x6 (some 4598175219545276416)) = true
    ·rw [if_pos c3] at ho1
     refine W.condT rfl c3 ?_
     refine W.skip ?_
     refine thnN ?_
     refine W.block ?_
     refine W.seq ?_
     refine W.region ?_
     refine RL.opD (by decide) (opv_move rfl rfl) ?_
     refine RL.opF (by decide) (opv_fop rfl rfl rfl rfl fv6 (isF_lit .f64 4598175219545276416 (by decide) (by decide))) ?_
     intro v8 fv8
     refine RL.opD (by decide) (opv_assign rfl rfl) ?_
     refine RL.nil ?_
     refine thnN ?_
     refine W.region ?_
     refine RL.opD (by decide) (opv_move rfl rfl) ?_
     refine RL.opD (by decide) (opv_add rfl rfl rfl) ?_
     refine RL.opD (by decide) (opv_assign rfl rfl) ?_
     refine RL.nil ?_
     refine blkN ?_
     have eo1 := Option.some.inj ho1
     subst eo1
     refine rndN (s' := (fop .sub .f64 x6 (some 4598175219545276416), IntKind.wrap .i64 (x7 + 1))) rfl ?_
     exact ⟨v8, ⟨rfl, rfl, rfl, rfl, rfl, rfl, trivial⟩, fv8, rfl⟩
    ·rw [if_neg c3] at ho1
     have c3 := eq_false_of_ne_true c3
     refine W.condF rfl c3 ?_
     refine W.exit ?_
     refine thnX ?_
     refine rndX ?_
     refine blkI ?_
     have eo1 := Option.some.inj ho1
     subst eo1
     have ey1 := hy1 _ rfl
     subst ey1
     refine onlyN ?_
     exact ⟨x6, x7, fcmp .geq .f64 x6 (some 4598175219545276416), v6, rfl, ⟨rfl, rfl, rfl, rfl, rfl, rfl, rfl, trivial⟩, fv6, rfl⟩
   rintro φ' _ ⟨x8, x9, x10, v7, rfl, hs2, fv7, rfl⟩
   try dsimp only at hp
   refine thnN ?_
   refine W.sub hs2 ?_
   refine W.seq ?_
   refine W.region ?_
   refine RL.opD (by decide) (opv_move rfl rfl) ?_
   refine RL.opF (by decide) (opv_fop rfl rfl rfl rfl (isF_lit .f64 4598175219545276416 (by decide) (by decide)) fv7) ?_
   intro v9 fv9
   obtain ⟨x11, hx11, hp⟩ := Option.bind_eq_some_iff.1 hp
   refine RL.op _ (by decide) (opv_call (cap := []) (impl_sine_ok _ _ _ fv9 _ hx11) rfl rfl ⟨rfl, trivial⟩ Try.func148 rfl rfl) ?_
   rintro v10 _ ⟨fv10, rfl⟩
   refine RL.opD (by decide) (opv_move rfl rfl) ?_
   obtain ⟨x12, hx12, hp⟩ := Option.bind_eq_some_iff.1 hp
   refine RL.op _ (by decide) (opv_call (cap := []) (impl_sine_ok _ _ _ fv7 _ hx12) rfl rfl ⟨rfl, trivial⟩ Try.func148 rfl rfl) ?_
   rintro v11 _ ⟨fv11, rfl⟩
   refine RL.opD (by decide) (opv_assign rfl rfl) ?_
   refine RL.opD (by decide) (opv_assign rfl rfl) ?_
   refine RL.nil ?_
   refine thnN ?_
   refine W.seq ?_
   refine W.seq ?_
   refine W.region ?_
   refine RL.opD (by decide) (opv_move rfl rfl) ?_
   refine RL.nil ?_
   refine thnN ?_
   refine W.block ?_
   refine W.seq ?_
   refine W.region ?_
   refine RL.opD (by decide) (opv_icmp rfl rfl rfl rfl) ?_
   refine RL.opD (by decide) (opv_assign rfl rfl) ?_
   refine RL.nil ?_
   refine thnN ?_
   obtain ⟨⟨x13, x14⟩, hy2, hp⟩ := Option.bind_eq_some_iff.1 hp
   try dsimp only at hp
   refine W.cut (fun φ' h' => ∃ v12, ∃ v13, Fr.sub [(0, u0), (2, (.complex .f32 0 0)), (10, (.bool (!x1))), (18, (.bool (fcmp .geq .f64 x4 (some 4841369599423283200)))), (4, v7), (5, (.int .i64 x9)), (22, (.bool x10)), (32, (.int .i64 x9)), (33, (.bool (x9 == 1))), (6, v12), (7, v13)] φ' ∧ IsF .f64 v12 x13 ∧ IsF .f64 v13 x14 ∧ h0 = h') ?_ ?_
   ·by_cases c4 : (x9 == 1) = true
    ·rw [if_pos c4] at hy2
     refine W.condT rfl c4 ?_
     refine W.region ?_
     refine RL.opD (by decide) (opv_move rfl rfl) ?_
     refine RL.opF (by decide) (opv_fop rfl rfl rfl rfl (isF_lit .f64 0 (by decide) (by decide)) fv11) ?_
     intro v14 fv14
     refine RL.opD (by decide) (opv_move rfl rfl) ?_
     refine RL.opD (by decide) (opv_assign rfl rfl) ?_
     refine RL.opD (by decide) (opv_assign rfl rfl) ?_
     refine RL.nil ?_
     have ey2 := Option.some.inj hy2
     simp only [Prod.mk.injEq] at ey2
     obtain ⟨rfl, rfl⟩ := ey2
     refine onlyN ?_
     exact ⟨v14, v10, ⟨rfl, rfl, rfl, rfl, rfl, rfl, rfl, rfl, rfl, rfl, rfl, trivial⟩, fv14, fv10, rfl⟩
    ·rw [if_neg c4] at hy2
     have c4 := eq_false_of_ne_true c4
     refine W.condF rfl c4 ?_
     refine W.seq ?_
     refine W.region ?_
     refine RL.opD (by decide) (opv_icmp rfl rfl rfl rfl) ?_
     refine RL.opD (by decide) (opv_assign rfl rfl) ?_
     refine RL.nil ?_
     refine thnN ?_
     obtain ⟨⟨x15, x16⟩, hy3, hy2⟩ := Option.bind_eq_some_iff.1 hy2
     try dsimp only at hy2
     refine W.cut (fun φ' h' => ∃ v15, ∃ v16, Fr.sub [(0, u0), (2, (.complex .f32 0 0)), (10, (.bool (!x1))), (18, (.bool (fcmp .geq .f64 x4 (some 4841369599423283200)))), (4, v7), (5, (.int .i64 x9)), (22, (.bool x10)), (32, (.int .i64 x9)), (33, (.bool (x9 == 1))), (38, (.bool (x9 == 2))), (6, v15), (7, v16)] φ' ∧ IsF .f64 v15 x15 ∧ IsF .f64 v16 x16 ∧ h0 = h') ?_ ?_
     ·by_cases c5 : (x9 == 2) = true
      ·rw [if_pos c5] at hy3
       refine W.condT rfl c5 ?_
       refine W.region ?_
       refine RL.opD (by decide) (opv_move rfl rfl) ?_
       refine RL.opF (by decide) (opv_fop rfl rfl rfl rfl (isF_lit .f64 0 (by decide) (by decide)) fv10) ?_
       intro v17 fv17
       refine RL.opD (by decide) (opv_move rfl rfl) ?_
       refine RL.opF (by decide) (opv_fop rfl rfl rfl rfl (isF_lit .f64 0 (by decide) (by decide)) fv11) ?_
       intro v18 fv18
       refine RL.opD (by decide) (opv_assign rfl rfl) ?_
       refine RL.opD (by decide) (opv_assign rfl rfl) ?_
       refine RL.nil ?_
       have ey3 := Option.some.inj hy3
       simp only [Prod.mk.injEq] at ey3
       obtain ⟨rfl, rfl⟩ := ey3
       refine onlyN ?_
       exact ⟨v17, v18, ⟨rfl, rfl, rfl, rfl, rfl, rfl, rfl, rfl, rfl, rfl, rfl, rfl, trivial⟩, fv17, fv18, rfl⟩
      ·rw [if_neg c5] at hy3
       have c5 := eq_false_of_ne_true c5
       refine W.condF rfl c5 ?_
       refine W.seq ?_
       refine W.region ?_
       refine RL.opD (by decide) (opv_icmp rfl rfl rfl rfl) ?_
       refine RL.opD (by decide) (opv_assign rfl rfl) ?_
       refine RL.nil ?_
       refine thnN ?_
       obtain ⟨⟨x17, x18⟩, hy4, hy3⟩ := Option.bind_eq_some_iff.1 hy3
       try dsimp only at hy3
       refine W.cut (fun φ' h' => ∃ v19, ∃ v20, Fr.sub [(0, u0), (2, (.complex .f32 0 0)), (10, (.bool (!x1))), (18, (.bool (fcmp .geq .f64 x4 (some 4841369599423283200)))), (4, v7), (5, (.int .i64 x9)), (22, (.bool x10)), (32, (.int .i64 x9)), (33, (.bool (x9 == 1))), (38, (.bool (x9 == 2))), (44, (.bool (x9 == 3))), (6, v19), (7, v20)] φ' ∧ IsF .f64 v19 x17 ∧ IsF .f64 v20 x18 ∧ h0 = h') ?_ ?_
       ·by_cases c6 : (x9 == 3) = true
        ·rw [if_pos c6] at hy4
         refine W.condT rfl c6 ?_
         refine W.region ?_
         refine RL.opD (by decide) (opv_move rfl rfl) ?_
         refine RL.opD (by decide) (opv_move rfl rfl) ?_
         refine RL.opF (by decide) (opv_fop rfl rfl rfl rfl (isF_lit .f64 0 (by decide) (by decide)) fv10) ?_
         intro v21 fv21
         refine RL.opD (by decide) (opv_assign rfl rfl) ?_
         refine RL.opD (by decide) (opv_assign rfl rfl) ?_
         refine RL.nil ?_
         have ey4 := Option.some.inj hy4
         simp only [Prod.mk.injEq] at ey4
         obtain ⟨rfl, rfl⟩ := ey4
         refine onlyN ?_
         exact ⟨v11, v21, ⟨rfl, rfl, rfl, rfl, rfl, rfl, rfl, rfl, rfl, rfl, rfl, rfl, rfl, trivial⟩, fv11, fv21, rfl⟩
        ·rw [if_neg c6] at hy4
         have c6 := eq_false_of_ne_true c6
         refine W.condF rfl c6 ?_
         refine W.skip ?_
         have ey4 := Option.some.inj hy4
         simp only [Prod.mk.injEq] at ey4
         obtain ⟨rfl, rfl⟩ := ey4
         refine onlyN ?_
         exact ⟨v10, v11, ⟨rfl, rfl, rfl, rfl, rfl, rfl, rfl, rfl, rfl, rfl, rfl, rfl, rfl, trivial⟩, fv10, fv11, rfl⟩
       rintro φ' _ ⟨v19, v20, hs5, fv19, fv20, rfl⟩
       have ey3 := Option.some.inj hy3
       simp only [Prod.mk.injEq] at ey3
       obtain ⟨rfl, rfl⟩ := ey3
       refine onlyN ?_
       exact ⟨v19, v20, (Fr.sub_trans ⟨rfl, rfl, rfl, rfl, rfl, rfl, rfl, rfl, rfl, rfl, rfl, rfl, trivial⟩ hs5), fv19, fv20, rfl⟩
     rintro φ' _ ⟨v15, v16, hs4, fv15, fv16, rfl⟩
     have ey2 := Option.some.inj hy2
     simp only [Prod.mk.injEq] at ey2
     obtain ⟨rfl, rfl⟩ := ey2
     refine onlyN ?_
     exact ⟨v15, v16, (Fr.sub_trans ⟨rfl, rfl, rfl, rfl, rfl, rfl, rfl, rfl, rfl, rfl, rfl, trivial⟩ hs4), fv15, fv16, rfl⟩
   rintro φ' _ ⟨v12, v13, hs3, fv12, fv13, rfl⟩
   refine blkN ?_
   refine thnN ?_
   refine W.sub hs3 ?_
   refine W.seq ?_
   refine W.region ?_
   refine RL.opD (by decide) (opv_move rfl rfl) ?_
   obtain ⟨x19, hx19, hp⟩ := Option.bind_eq_some_iff.1 hp
   refine RL.opF (by decide) (opv_f2f rfl (by rw [Try.underlying43]; rfl) Try.underlying29 (by decide) rfl fv12 hx19) ?_
   intro v22 fv22
   refine RL.opD (by decide) (opv_move rfl rfl) ?_
   obtain ⟨x20, hx20, hp⟩ := Option.bind_eq_some_iff.1 hp
   refine RL.opF (by decide) (opv_f2f rfl (by rw [Try.underlying43]; rfl) Try.underlying29 (by decide) rfl fv13 hx20) ?_
   intro v23 fv23
   refine RL.op _ (by decide) (opv_complex rfl rfl rfl fv22 fv23) ?_
   rintro v24 _ ⟨fv24, rfl⟩
   refine RL.opD (by decide) (opv_assign rfl rfl) ?_
   refine RL.nil ?_
   refine thnN ?_
   refine W.ret ?_
   have er := Option.some.inj hp
   subst er
   exact Rt.one rfl rfl ⟨fv24, rfl⟩

end Go.H
