/- Sines: what the program computes, and that it stays within bounds. -/
import Derived.Test.YtmgoblppedmdhaaP0
import Derived.Test.YtmgoblppedmdhaaLibE
import Derived.Test.YtmgoblppedmdhaaGTrig
set_option linter.unusedVariables false
namespace Go.H
open Go Ieee

/-- one round of the series -/
def sinTerm (t p : Option Nat) (k : Nat) : Option Nat := fop .sub .f64 (some 4607182418800017408) (fop .quo .f64 (fop .mul .f64 (fop .mul .f64 (fop .mul .f64 t (some 4618760256179416344)) (fop .mul .f64 t (some 4618760256179416344))) p) (some k))
def sinPoly (t : Option Nat) : Option Nat :=
  sinTerm t (sinTerm t (sinTerm t (sinTerm t (sinTerm t (sinTerm t (sinTerm t (sinTerm t (some 4607182418800017408) 4643492690795692032) 4641592734702895104) 4639692778610098176) 4637440978796412928) 4634766966517661696) 4631107791820423168) 4626322717216342016) 4618441417868443648
def sinPart (f : Option Nat) : Option Nat := if fcmp .lss .f64 f (some 0) = true then fop .add .f64 f (some 4607182418800017408) else f
def sinHalf (f : Option Nat) : Option Nat := if fcmp .geq .f64 f (some 4602678819172646912) = true then fop .sub .f64 f (some 4602678819172646912) else f
def sinQuarter (f : Option Nat) : Option Nat := if fcmp .gtr .f64 f (some 4598175219545276416) = true then fop .sub .f64 (some 4602678819172646912) f else f
/-- the sine of what is left over of a whole turn -/
def sinOf (f : Option Nat) : Option Nat :=
  let x := sinPart f
  let y := sinQuarter (sinHalf x)
  if fcmp .geq .f64 x (some 4602678819172646912) = true then fneg .f64 (fop .mul .f64 (fop .mul .f64 y (some 4618760256179416344)) (sinPoly y)) else fop .mul .f64 (fop .mul .f64 y (some 4618760256179416344)) (sinPoly y)

theorem sinTerm_le {e : Int} {t p : Option Nat} {k : Nat} (ht : Le 0 t) (hp : Le e p) (hk : LoD 2 (double.read k)) (h1 : 0 ≤ e) (h2 : e ≤ 900) : Le (e + 5) (sinTerm t p k) := by
  have a := Le.mul (d := 0) (e := 3) ht (le_const 3 4618760256179416344 (by decide)) (by omega) (by omega)
  have b := Le.mul (d := 6) (e := e) (Le.mul a a (by omega) (by omega)) hp (by omega) (by omega)
  have c := Le.quo (e := 2) b (lo_const 2 k hk) (by omega) (by omega)
  have d := Le.sub (e := e + 4) ((le_const 0 4607182418800017408 (by decide)).mono (by omega)) (c.mono (by omega)) (by omega) (by omega)
  exact d.mono (by omega)

theorem sinPoly_le {t : Option Nat} (ht : Le 0 t) : Le 40 (sinPoly t) := by
  unfold sinPoly
  have h := sinTerm_le (e := 0) (k := 4643492690795692032) ht (le_const 0 4607182418800017408 (by decide)) (by decide) (by omega) (by omega)
  have h := sinTerm_le (k := 4641592734702895104) ht h (by decide) (by omega) (by omega)
  have h := sinTerm_le (k := 4639692778610098176) ht h (by decide) (by omega) (by omega)
  have h := sinTerm_le (k := 4637440978796412928) ht h (by decide) (by omega) (by omega)
  have h := sinTerm_le (k := 4634766966517661696) ht h (by decide) (by omega) (by omega)
  have h := sinTerm_le (k := 4631107791820423168) ht h (by decide) (by omega) (by omega)
  have h := sinTerm_le (k := 4626322717216342016) ht h (by decide) (by omega) (by omega)
  have h := sinTerm_le (k := 4618441417868443648) ht h (by decide) (by omega) (by omega)
  exact h.mono (by omega)

theorem half_read : ∃ m p, double.read 4602678819172646912 = .number false m p ∧ m ≠ 0 := ⟨4503599627370496, -53, by decide, by decide⟩
theorem quarter_read : ∃ m p, double.read 4598175219545276416 = .number false m p ∧ m ≠ 0 := ⟨4503599627370496, -54, by decide, by decide⟩

theorem sinPart_le {f : Option Nat} (h : Le 0 f) : Le 0 (sinPart f) := by
  unfold sinPart
  split
  · rename_i hc
    exact Le.addOpp (s := true) h (le_const 0 _ (by decide)) (Sg.lss hc) (sg_const false _ (by decide)) (by omega) (by omega)
  · exact h
theorem sinHalf_le {f : Option Nat} (h : Le 0 f) : Le 0 (sinHalf f) := by
  unfold sinHalf
  split
  · rename_i hc
    exact Le.subSame (s := false) h (le_const 0 _ (by decide)) (Sg.geq half_read hc) (sg_const false _ (by decide)) (by omega) (by omega)
  · exact h
theorem sinQuarter_le {f : Option Nat} (h : Le 0 f) : Le 0 (sinQuarter f) := by
  unfold sinQuarter
  split
  · rename_i hc
    exact Le.subSame (s := false) (le_const 0 _ (by decide)) h (sg_const false _ (by decide)) (Sg.geq quarter_read (geq_of_gtr hc)) (by omega) (by omega)
  · exact h

theorem sinOf_le {f : Option Nat} (h : Le 0 f) : Le 43 (sinOf f) := by
  unfold sinOf
  have hy := sinQuarter_le (sinHalf_le (sinPart_le h))
  dsimp only
  generalize sinQuarter (sinHalf (sinPart f)) = y at *
  have a := Le.mul (d := 0) (e := 3) hy (le_const 3 4618760256179416344 (by decide)) (by omega) (by omega)
  have b := Le.mul (d := 3) (e := 40) a (sinPoly_le hy) (by omega) (by omega)
  split
  · exact b.neg
  · exact b

theorem impl_sin (t : Option Nat) : ∃ i b, loopF (fun (s : ((Option Nat) × (Option Nat))) => impl_sine.s0 t s.1 s.2) ((some 4607182418800017408), (some 4620693217682128896)) = some (sinPoly t, i, b) := by
  have n : ∀ p (i k j : Nat), fcmp .geq .f64 (some i) (some 4607182418800017408) = true → fop .mul .f64 (fop .mul .f64 (some 4611686018427387904) (some i)) (fop .add .f64 (fop .mul .f64 (some 4611686018427387904) (some i)) (some 4607182418800017408)) = some k → fop .sub .f64 (some i) (some 4607182418800017408) = some j → impl_sine.s0 t p (some i) = some (.inl (sinTerm t p k, some j)) := by
    intro p i k j h h1 h2
    unfold impl_sine.s0
    rw [if_pos h, h1, h2]; rfl
  rw [loopF_next (n _ 4620693217682128896 4643492690795692032 4619567317775286272 (by decide +kernel) (by decide +kernel) (by decide +kernel)),
    loopF_next (n _ 4619567317775286272 4641592734702895104 4618441417868443648 (by decide +kernel) (by decide +kernel) (by decide +kernel)),
    loopF_next (n _ 4618441417868443648 4639692778610098176 4617315517961601024 (by decide +kernel) (by decide +kernel) (by decide +kernel)),
    loopF_next (n _ 4617315517961601024 4637440978796412928 4616189618054758400 (by decide +kernel) (by decide +kernel) (by decide +kernel)),
    loopF_next (n _ 4616189618054758400 4634766966517661696 4613937818241073152 (by decide +kernel) (by decide +kernel) (by decide +kernel)),
    loopF_next (n _ 4613937818241073152 4631107791820423168 4611686018427387904 (by decide +kernel) (by decide +kernel) (by decide +kernel)),
    loopF_next (n _ 4611686018427387904 4626322717216342016 4607182418800017408 (by decide +kernel) (by decide +kernel) (by decide +kernel)),
    loopF_next (n _ 4607182418800017408 4618441417868443648 0 (by decide +kernel) (by decide +kernel) (by decide +kernel))]
  refine ⟨some 0, fcmp .geq .f64 (some 0) (some 4607182418800017408), loopF_stop ?_⟩
  unfold impl_sine.s0
  rw [if_neg (by show ¬ fcmp .geq .f64 (some 0) (some 4607182418800017408) = true; decide +kernel)]
  rfl

/-- the sine, of a 64-bit number -/
def sinWide (x : Option Nat) : Option Nat :=
  if fin .f64 x = false then none
  else if fcmp .geq .f64 (fabs x) (some 4841369599423283200) = true then some 0
  else sinOf (fop .sub .f64 x (fofi .f64 ((ftoi .f64 .i64 x).getD 0)))

theorem sinWide_le (x : Option Nat) : Le 43 (sinWide x) := by
  unfold sinWide
  split
  · exact le_none
  · split
    · exact le_const _ _ (by decide)
    · rename_i h1 h2
      obtain ⟨n, hn, hl⟩ := whole (by simpa using h1) (by simpa using h2)
      rw [hn]
      exact sinOf_le hl

theorem sineTurns_eq (x : Option Nat) : impl_SineTurns x = fcv .f64 .f32 (sinWide (wid x)) := by
  unfold impl_SineTurns impl_IsFinite sinWide impl_sine impl_fraction
  rw [fin_eql, fin_wid, NaN_eq]
  cases hf : fin .f32 x with
  | false => rfl
  | true =>
    simp only [Bool.not_true, Bool.false_eq_true, if_false, some_bind', math_Abs, Bool.true_eq_false]
    cases h1 : fcmp .geq .f64 (fabs (wid x)) (some 4841369599423283200) with
    | true => rfl
    | false =>
      obtain ⟨n, hn, hl⟩ := whole (by rw [fin_wid]; exact hf) h1
      rw [hn]
      obtain ⟨i, b, e1⟩ := impl_sin (sinQuarter (sinHalf (sinPart (fop .sub .f64 (wid x) (fofi .f64 n)))))
      simp only [Bool.false_eq_true, if_false, some_bind', ite_some, Option.getD_some]
      unfold sinQuarter sinHalf sinPart at e1
      simp only [e1, some_bind', bind_id']
      rfl

theorem sineTurns_some (x : Option Nat) : ∃ r, impl_SineTurns x = some r := by
  rw [sineTurns_eq]
  exact (sinWide_le (wid x)).fcv (by omega)
end Go.H
