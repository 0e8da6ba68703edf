/- How far points are apart. -/
import Derived.Test.YtmgoblppedmdhaaPSpT
set_option linter.unusedVariables false
namespace Go.H
open Go Ieee

/-- how far two points are apart -/
theorem apart_ok {u v : Option Nat × Option Nat} {a b c d : Int} (h1 : valf .f32 u.1 = some a) (h2 : valf .f32 v.1 = some b) (h3 : valf .f32 u.2 = some c) (h4 : valf .f32 v.2 = some d)
    (d1 : -(2 ^ 2388) ≤ a - b) (d2 : a - b ≤ 2 ^ 2388) (d3 : -(2 ^ 2388) ≤ c - d) (d4 : c - d ≤ 2 ^ 2388) : ∃ y r, laws_r8Apart u v = some y ∧ valf .f64 y = some r ∧ r ≤ 2 ^ 2389 := by
  have eN : fbits1 .f32 + 2364 = 2388 := by rw [N32]
  obtain ⟨x, x1, _, _, _, x2, x3⟩ := valf.sub (k := .f32) (Q := 2364) h1 h2 (by rw [L32]; decide) (by decide) (by rw [eN]; exact d1) (by rw [eN]; exact d2)
  obtain ⟨y, y1, _, _, _, y2, y3⟩ := valf.sub (k := .f32) (Q := 2364) h3 h4 (by rw [L32]; decide) (by decide) (by rw [eN]; exact d3) (by rw [eN]; exact d4)
  rw [eN] at x2 x3 y2 y3
  have sq : ∀ {z : Option Nat} {r : Int}, valf .f32 z = some r → -(2 ^ 2388) ≤ r → r ≤ 2 ^ 2388 → ∃ p, valf .f64 (fop .mul .f64 (wid z) (wid z)) = some p ∧ -(2 ^ 2376) ≤ p ∧ p ≤ 2 ^ 2376 := by
    intro z r hz r1 r2
    obtain ⟨w, hw⟩ := mul_unit (valf.wid hz) (valf.wid hz)
    have hr : r * r ≤ 2 ^ 2388 * 2 ^ 2388 := sq_le_pow r1 r2
    have hr0 : 0 ≤ r * r := sq_nonneg r
    have e : (2 : Int) ^ 2388 * 2 ^ 2388 = 2 ^ 2376 * 2 ^ UN := by rw [← Int.pow_add, ← Int.pow_add]; rfl
    rw [e, ← hw] at hr
    have hUN := ipow_pos UN
    have w2 : w ≤ 2 ^ 2376 := Int.le_of_mul_le_mul_right hr hUN
    have w1 : 0 ≤ w := by
      refine Int.le_of_mul_le_mul_right (a := 2 ^ UN) ?_ hUN
      rw [Int.zero_mul, hw]; exact hr0
    have e2 : fbits1 .f64 + 2323 = 2376 := by rw [N64]
    have hp := ipow_pos 2376
    obtain ⟨p, p1, _, _, _, p2, p3⟩ := valf.mul (k := .f64) (Q := 2323) (valf.wid hz) (valf.wid hz) (by rw [L64]; decide) (by decide) hw (by rw [e2]; omega) (by rw [e2]; exact w2)
    rw [e2] at p2 p3
    exact ⟨p, p1, p2, p3⟩
  obtain ⟨p, p1, p2, p3⟩ := sq x1 x2 x3
  obtain ⟨q, q1, q2, q3⟩ := sq y1 y2 y3
  have e3 : fbits1 .f64 + 2324 = 2377 := by rw [N64]
  have e4 : (2 : Int) ^ 2377 = 2 * 2 ^ 2376 := by decide +kernel
  obtain ⟨t, t1, _, _, _, t2, t3⟩ := valf.add (k := .f64) (Q := 2324) p1 q1 (by rw [L64]; decide) (by decide) (by rw [e3, e4]; omega) (by rw [e3, e4]; omega)
  rw [e3] at t2 t3
  have e5 : (2 : Int) ^ 2377 < 2 ^ (2 * 2389 - 2400) := by decide +kernel
  obtain ⟨r, r1, r2, r3⟩ := valf.sqrt t1 (add_nn (sq_nn _) (sq_nn _)) 2389 (by decide) (by decide) (by omega)
  have hp := ipow_pos 2389
  obtain ⟨y', r', k1, k2, k3⟩ := valf.fcv (Q := 2365) r1 (by decide) (by decide) (by show -(2 ^ 2389) ≤ r; omega) (by show r ≤ 2 ^ 2389; exact r3)
  refine ⟨wid y', r', ?_, valf.wid k2, k3.2.2.2.2⟩
  unfold laws_r8Apart impl_LongOf impl_power impl_parts math_Sqrt
  simp only [some_bind', cop, k1]
end Go.H
