/- Angles: what both texts compute, and that it stays within bounds. -/
import Derived.Test.YtinpafbadbnhhaaFB4
import Derived.Test.YtinpafbadbnhhaaGTrig
set_option linter.unusedVariables false
namespace Go.H
open Go Ieee

/-- one round of the halving -/
def angHalf (t : Option Nat) : Option Nat := fop .quo .f64 t (fop .add .f64 (some 4607182418800017408) (fsqrt (fop .add .f64 (some 4607182418800017408) (fop .mul .f64 t t))))
/-- one round of the series -/
def angTerm (t p : Option Nat) (k : Nat) : Option Nat := fop .sub .f64 (fop .quo .f64 (some 4607182418800017408) (some k)) (fop .mul .f64 (fop .mul .f64 t t) p)
def angPoly (t : Option Nat) : Option Nat :=
  angTerm t (angTerm t (angTerm t (angTerm t (angTerm t (angTerm t (angTerm t (angTerm t (some 0) 4624633867356078080) 4623507967449235456) 4622382067542392832) 4621256167635550208) 4619567317775286272) 4617315517961601024) 4613937818241073152) 4607182418800017408

theorem angHalf_bd {e : Int} {t : Option Nat} (h : Bd e t) (h1 : -1022 < e) (h2 : e ≤ 1023) : Bd (e + 1) (angHalf t) := by
  have := Bd.quo (d := e) (e := 0) h (Lo.one_add (Nn.sqrt (x := fop .add .f64 (some 4607182418800017408) (fop .mul .f64 t t)))) (by omega) (by omega)
  rwa [Int.sub_zero] at this

theorem angTerm_bd {e : Int} {t p : Option Nat} {k : Nat} (ht : Bd 5 t) (hp : Bd e p) (hk : LoD 0 (double.read k)) (h1 : -10 ≤ e) (h2 : e ≤ 1000) : Bd (e + 14) (angTerm t p k) := by
  have a := Bd.quo (d := 1) (e := 0) (bd_const 1 4607182418800017408 (by decide)) (lo_const 0 k hk) (by omega) (by omega)
  have b := Bd.mul (d := 11) (e := e) (Bd.mul (d := 5) (e := 5) ht ht (by omega) (by omega)) hp (by omega) (by omega)
  have := Bd.sub (e := e + 12) (a.mono (by omega)) (b.mono (by omega)) (by omega) (by omega)
  rwa [show e + 12 + 2 = e + 14 by omega] at this

theorem angPoly_bd {t : Option Nat} (ht : Bd 5 t) : Bd 102 (angPoly t) := by
  unfold angPoly
  have h := angTerm_bd (k := 4624633867356078080) ht (bd_const (-10) 0 (by decide)) (by decide) (by omega) (by omega)
  have h := angTerm_bd (k := 4623507967449235456) ht h (by decide) (by omega) (by omega)
  have h := angTerm_bd (k := 4622382067542392832) ht h (by decide) (by omega) (by omega)
  have h := angTerm_bd (k := 4621256167635550208) ht h (by decide) (by omega) (by omega)
  have h := angTerm_bd (k := 4619567317775286272) ht h (by decide) (by omega) (by omega)
  have h := angTerm_bd (k := 4617315517961601024) ht h (by decide) (by omega) (by omega)
  have h := angTerm_bd (k := 4613937818241073152) ht h (by decide) (by omega) (by omega)
  have h := angTerm_bd (k := 4607182418800017408) ht h (by decide) (by omega) (by omega)
  exact h.mono (by omega)

/-- the angle behind the series -/
def angOf (t : Option Nat) : Option Nat := fop .quo .f64 (fop .mul .f64 (some 4620693217682128896) (fop .mul .f64 t (angPoly t))) (some 4618760256179416344)

theorem angOf_bd {t : Option Nat} (ht : Bd 5 t) : Bd 112 (angOf t) := by
  unfold angOf
  have a := Bd.mul (d := 5) (e := 102) ht (angPoly_bd ht) (by omega) (by omega)
  have b := Bd.mul (d := 4) (e := 108) (bd_const 4 4620693217682128896 (by decide)) a (by omega) (by omega)
  have c := Bd.quo (d := 113) (e := 2) b (lo_const 2 4618760256179416344 (by decide)) (by omega) (by omega)
  exact c.mono (by omega)

/-- the whole angle, of two widths -/
def angWide (y x : Option Nat) : Option Nat :=
  if fin .f64 x = false ∨ fin .f64 y = false then none
  else if fcmp .eql .f64 x (some 0) = true ∧ fcmp .eql .f64 y (some 0) = true then some 0
  else
    let t := angHalf (angHalf (angHalf (if fcmp .gtr .f64 (fabs y) (fabs x) = true then fop .quo .f64 (fabs x) (fabs y) else fop .quo .f64 (fabs y) (fabs x))))
    let a := if fcmp .gtr .f64 (fabs y) (fabs x) = true then fop .sub .f64 (some 4598175219545276416) (angOf t) else angOf t
    let b := if fcmp .lss .f64 x (some 0) = true then fop .sub .f64 (some 4602678819172646912) a else a
    if fcmp .lss .f64 y (some 0) = true then fneg .f64 b else b

theorem angWide_bd (x y : Option Nat) (hx : Cl x) (hy : Cl y) : Bd 120 (angWide y x) := by
  unfold angWide
  split
  · exact bd_none
  split
  · exact bd_const _ _ (by decide)
  have r := Bd.ratio (Nn.abs hy) (Nn.abs hx)
  have r := angHalf_bd (angHalf_bd (angHalf_bd r (by omega) (by omega)) (by omega) (by omega)) (by omega) (by omega)
  have r := angOf_bd (r.mono (by omega))
  dsimp only
  generalize angOf _ = A at r
  have h1 : Bd 114 (if fcmp .gtr .f64 (fabs y) (fabs x) = true then fop .sub .f64 (some 4598175219545276416) A else A) := by
    split
    · exact Bd.sub (bd_const 112 _ (by decide)) r (by omega) (by omega)
    · exact r.mono (by omega)
  generalize (if fcmp .gtr .f64 (fabs y) (fabs x) = true then fop .sub .f64 (some 4598175219545276416) A else A) = B at h1
  have h2 : Bd 116 (if fcmp .lss .f64 x (some 0) = true then fop .sub .f64 (some 4602678819172646912) B else B) := by
    split
    · exact Bd.sub (bd_const 114 _ (by decide)) h1 (by omega) (by omega)
    · exact h1.mono (by omega)
  split
  · exact h2.neg.mono (by omega)
  · exact h2.mono (by omega)

/-! ### the two loops -/
theorem spec_s0 (t : Option Nat) : loopF (fun (s : ((Option Nat) × Int)) => spec_l01AngleWide.s0 s.1 s.2) (t, 0) = some (angHalf (angHalf (angHalf t)), 3, false) := by
  have n : ∀ t (i : Int), i < 3 → 0 ≤ i → spec_l01AngleWide.s0 t i = some (.inl (angHalf t, i + 1)) := by
    intro t i h h0
    unfold spec_l01AngleWide.s0 math_Sqrt
    rw [if_pos (by simpa using h)]
    have : IntKind.wrap .i64 (i + 1) = i + 1 := by
      have : i = 0 ∨ i = 1 ∨ i = 2 := by omega
      rcases this with rfl | rfl | rfl <;> decide
    rw [this]; rfl
  rw [loopF_next (n t 0 (by decide) (by decide)), loopF_next (n _ 1 (by decide) (by decide)), loopF_next (n _ 2 (by decide) (by decide))]
  apply loopF_stop
  unfold spec_l01AngleWide.s0
  rw [if_neg (by show ¬ decide ((3 : Int) < 3) = true; decide)]
  rfl

theorem spec_s1 (t : Option Nat) : ∃ i b, loopF (fun (s : ((Option Nat) × Int)) => spec_l01AngleWide.s1 t s.1 s.2) ((some 0), 15) = some (angPoly t, i, b) := by
  have n : ∀ p (i : Int) (k : Nat) (j : Int), decide (i ≥ 1) = true → fofi .f64 i = some k → IntKind.wrap .i64 (i - 2) = j → spec_l01AngleWide.s1 t p i = some (.inl (angTerm t p k, j)) := by
    intro p i k j h h1 h2
    unfold spec_l01AngleWide.s1
    rw [if_pos h, h1, h2]; rfl
  rw [loopF_next (n _ 15 4624633867356078080 13 (by decide) (by decide +kernel) (by decide)),
    loopF_next (n _ 13 4623507967449235456 11 (by decide) (by decide +kernel) (by decide)),
    loopF_next (n _ 11 4622382067542392832 9 (by decide) (by decide +kernel) (by decide)),
    loopF_next (n _ 9 4621256167635550208 7 (by decide) (by decide +kernel) (by decide)),
    loopF_next (n _ 7 4619567317775286272 5 (by decide) (by decide +kernel) (by decide)),
    loopF_next (n _ 5 4617315517961601024 3 (by decide) (by decide +kernel) (by decide)),
    loopF_next (n _ 3 4613937818241073152 1 (by decide) (by decide +kernel) (by decide)),
    loopF_next (n _ 1 4607182418800017408 (-1) (by decide) (by decide +kernel) (by decide))]
  refine ⟨-1, false, loopF_stop ?_⟩
  unfold spec_l01AngleWide.s1
  rw [if_neg (by show ¬ decide ((-1 : Int) ≥ 1) = true; decide)]
  rfl

theorem impl_s0 (t : Option Nat) : loopF (fun (s : ((Option Nat) × Int)) => impl_AngleTurns.s0 s.1 s.2) (t, 0) = some (angHalf (angHalf (angHalf t)), 3, false) := spec_s0 t

theorem impl_s1 (t : Option Nat) : ∃ i b, loopF (fun (s : ((Option Nat) × (Option Nat))) => impl_AngleTurns.s1 t s.1 s.2) ((some 0), (some 4624633867356078080)) = some (angPoly t, i, b) := by
  have n : ∀ p (k j : Nat), fcmp .geq .f64 (some k) (some 4607182418800017408) = true → fop .sub .f64 (some k) (some 4611686018427387904) = some j → impl_AngleTurns.s1 t p (some k) = some (.inl (angTerm t p k, some j)) := by
    intro p k j h h1
    unfold impl_AngleTurns.s1
    rw [if_pos h, h1]; rfl
  rw [loopF_next (n _ 4624633867356078080 4623507967449235456 (by decide +kernel) (by decide +kernel)),
    loopF_next (n _ 4623507967449235456 4622382067542392832 (by decide +kernel) (by decide +kernel)),
    loopF_next (n _ 4622382067542392832 4621256167635550208 (by decide +kernel) (by decide +kernel)),
    loopF_next (n _ 4621256167635550208 4619567317775286272 (by decide +kernel) (by decide +kernel)),
    loopF_next (n _ 4619567317775286272 4617315517961601024 (by decide +kernel) (by decide +kernel)),
    loopF_next (n _ 4617315517961601024 4613937818241073152 (by decide +kernel) (by decide +kernel)),
    loopF_next (n _ 4613937818241073152 4607182418800017408 (by decide +kernel) (by decide +kernel)),
    loopF_next (n _ 4607182418800017408 13830554455654793216 (by decide +kernel) (by decide +kernel))]
  refine ⟨some 13830554455654793216, fcmp .geq .f64 (some 13830554455654793216) (some 4607182418800017408), loopF_stop ?_⟩
  unfold impl_AngleTurns.s1
  rw [if_neg (by show ¬ fcmp .geq .f64 (some 13830554455654793216) (some 4607182418800017408) = true; decide +kernel)]
  rfl

theorem some_bind' {α β : Type} (a : α) (f : α → Option β) : (some a).bind f = f a := rfl
theorem ite_some {α : Type} (p : Prop) [Decidable p] (a b : α) : (if p then some a else some b) = some (if p then a else b) := by split <;> rfl

theorem bind_id' {α : Type} (x : Option α) : (x.bind fun y => some y) = x := by cases x <;> rfl

theorem NaN_eq : math_NaN = some none := by
  unfold math_NaN
  have : ffrom .f64 9221120237041090561 = some none := by decide +kernel
  rw [this]; rfl

theorem wide_eq (y x : Option Nat) : spec_l01AngleWide y x = some (angWide y x) := by
  unfold spec_l01AngleWide angWide
  rw [fin_neq, fin_neq, NaN_eq]
  cases hx : fin .f64 x with
  | false => cases fin .f64 y <;> rfl
  | true => cases hy : fin .f64 y with
    | false => rfl
    | true =>
      simp only [Bool.not_true, Bool.false_eq_true, if_false, some_bind', false_or, Bool.true_eq_false]
      cases h1 : fcmp .eql .f64 x (some 0) with
      | true => cases h2 : fcmp .eql .f64 y (some 0) with
        | true => rfl
        | false =>
          obtain ⟨i, b, e1⟩ := spec_s1 (angHalf (angHalf (angHalf (if fcmp .gtr .f64 (fabs y) (fabs x) = true then fop .quo .f64 (fabs x) (fabs y) else fop .quo .f64 (fabs y) (fabs x)))))
          simp only [if_true, Bool.false_eq_true, if_false, some_bind', math_Abs, ite_some, and_false, spec_s0, e1]
          rfl
      | false =>
        obtain ⟨i, b, e1⟩ := spec_s1 (angHalf (angHalf (angHalf (if fcmp .gtr .f64 (fabs y) (fabs x) = true then fop .quo .f64 (fabs x) (fabs y) else fop .quo .f64 (fabs y) (fabs x)))))
        simp only [Bool.false_eq_true, if_false, some_bind', math_Abs, ite_some, false_and, spec_s0, e1]
        rfl

theorem turns_eq (y x : Option Nat) : impl_AngleTurns y x = spec_l01Angle y x := by
  unfold spec_l01Angle
  rw [wide_eq]
  unfold impl_AngleTurns impl_IsFinite spec_l01Narrow angWide
  rw [fin_eql, fin_eql, fin_wid, fin_wid, NaN_eq]
  cases hx : fin .f32 x with
  | false => rfl
  | true => cases hy : fin .f32 y with
    | false => rfl
    | true =>
      simp only [Bool.not_true, Bool.false_eq_true, if_false, some_bind', or_self, fcmp_zero_wid, Bool.true_eq_false]
      cases h1 : fcmp .eql .f32 x (some 0) with
      | true => cases h2 : fcmp .eql .f32 y (some 0) with
        | true => rfl
        | false =>
          obtain ⟨i, b, e1⟩ := impl_s1 (angHalf (angHalf (angHalf (if fcmp .gtr .f64 (fabs (wid y)) (fabs (wid x)) = true then fop .quo .f64 (fabs (wid x)) (fabs (wid y)) else fop .quo .f64 (fabs (wid y)) (fabs (wid x))))))
          simp only [if_true, Bool.false_eq_true, if_false, some_bind', math_Abs, ite_some, and_false, impl_s0, e1, bind_id']
          rfl
      | false =>
        obtain ⟨i, b, e1⟩ := impl_s1 (angHalf (angHalf (angHalf (if fcmp .gtr .f64 (fabs (wid y)) (fabs (wid x)) = true then fop .quo .f64 (fabs (wid x)) (fabs (wid y)) else fop .quo .f64 (fabs (wid y)) (fabs (wid x))))))
        simp only [Bool.false_eq_true, if_false, some_bind', math_Abs, ite_some, false_and, impl_s0, e1, bind_id']
        rfl

theorem angle_some (y x : Option Nat) : ∃ r, spec_l01Angle y x = some r := by
  unfold spec_l01Angle spec_l01Narrow
  rw [wide_eq]
  obtain ⟨r, hr⟩ := Bd.fcv ((angWide_bd (wid x) (wid y) (Cl.wid x) (Cl.wid y)).mono (by omega))
  exact ⟨r, by simp only [some_bind', hr]⟩

theorem root_eq (x : Option Nat) : impl_RootNumber x = spec_l01Sqrt x := by
  unfold impl_RootNumber spec_l01Sqrt spec_l01Narrow
  cases math_Sqrt (wid x) with
  | none => rfl
  | some r => simp only [some_bind']; cases fcv .f64 .f32 r <;> rfl

theorem sqrt_some (x : Option Nat) : ∃ r, spec_l01Sqrt x = some r := by
  unfold spec_l01Sqrt spec_l01Narrow math_Sqrt
  obtain ⟨r, hr⟩ := fcv_sqrt_wid x
  exact ⟨r, by simp only [some_bind', hr]⟩

theorem same_self (x : Option Nat) (h : Cl x) : laws_sameFloat x x = some true := by
  unfold laws_sameFloat
  cases x with
  | none => rfl
  | some b =>
    have h1 := eql_self (k := .f64) (h b rfl)
    have h2 : fcmp .neq .f64 (some b) (some b) = false := by
      show (!feq .f64 (some b) (some b)) = false
      have : feq .f64 (some b) (some b) = true := h1
      rw [this]; rfl
    simp only [h1, h2, Bool.false_eq_true, if_false, some_bind']
    cases fcmp .eql .f64 (some b) (some 0) <;> simp

end Go.H
