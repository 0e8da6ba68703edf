/- The rows that a strip needs: the plain law. -/
import Derived.Test.YtmgoblppedmdhaaPHaloI
import Derived.Test.YtmgoblppedmdhaaPGridI
set_option linter.unusedVariables false
namespace Go.H
open Go Ieee

theorem halo_eq (a0 a1 : Int) (a2 : Bool) (a3 a4 : List (Option Nat)) (p q : Int) (h3 : a3.length ≤ 1000000000) (h4 : a4.length ≤ 1000000000) : ∃ r : List Int × Bool, r.1.length ≤ 256 ∧ spec_HaloRows a0 a1 a2 a3 a4 p q = some r ∧ impl_HaloRows a0 a1 a2 a3 a4 p q = some r := by
  unfold spec_HaloRows impl_HaloRows impl_IsStrip spec_l07Is
  obtain ⟨v, e1, e2⟩ := is_eq a0 a1 a2 a3 a4 h3 h4
  rw [e1, e2]
  cases v with
  | false => exact ⟨([], false), by simp, rfl, rfl⟩
  | true =>
    obtain ⟨w, h, rfl, rfl, w1, w2, k1, k2, l3, l4⟩ := valid_has e2
    simp only [(in_eq _ _ _).1, (in_eq _ _ _).2, some_bind', Bool.not_true, Bool.false_eq_true, if_false, ite_andB]
    cases hc : (decide (p ≥ 0) && decide (p ≤ IntKind.wrap .i64 ((h : Int) - 1))) && (decide (q ≥ 1) && decide (q ≤ IntKind.wrap .i64 ((h : Int) - p))) with
    | false => exact ⟨([], false), by simp, rfl, rfl⟩
    | true =>
      simp only [Bool.and_eq_true, decide_eq_true_eq] at hc
      rw [wrap_small (n := (h : Int) - 1) (by omega) (by omega)] at hc
      rw [wrap_small (n := (h : Int) - p) (by omega) (by omega)] at hc
      obtain ⟨fr, rfl⟩ := Int.eq_ofNat_of_zero_le (show 0 ≤ p by omega)
      obtain ⟨ct, rfl⟩ := Int.eq_ofNat_of_zero_le (show 0 ≤ q by omega)
      simp only [Bool.not_true, Bool.false_eq_true, if_false, impl_halo a2 a3 a4 fr ct (show 1 ≤ h by omega) k2 (by omega) (by omega) (by omega), spec_halo a2 a3 a4 fr ct (show 1 ≤ h by omega) k2 (by omega) (by omega) (by omega), some_bind']
      refine ⟨_, ?_, rfl, rfl⟩
      have h1 := insAll_len (haloL h a2 fr (ct + 2)) []
      have h2 := haloL_len h a2 fr (ct + 2)
      simp at h1 ⊢
      omega

theorem laws_FnExactHaloRows_true (a0 a1 : Int) (a2 : Bool) (a3 a4 : List (Option Nat)) (b0 b1 : Int) (h3 : a3.length ≤ 9223372036854775807) (h4 : a4.length ≤ 9223372036854775807) : laws_FnExactHaloRows a0 a1 a2 a3 a4 b0 b1 = some true := by
  unfold laws_FnExactHaloRows
  rcases szSheet_cases a0 a1 a2 a3 a4 1048576 (by omega) (by omega) h3 h4 with h | ⟨h, hl⟩
  · rw [h]; rfl
  · rw [h, some_bind', if_neg (by simp; omega)]
    obtain ⟨⟨l, r⟩, hlen, e1, e2⟩ := halo_eq a0 a1 a2 a3 a4 b0 b1 (by omega) (by omega)
    simp only at hlen
    simp only [toSheet_eq a0 a1 a2 a3 a4 (by omega) (by omega), laws_toStrip, e1, e2, some_bind', eqInt64S_self l (by omega), eqSheet_self a0 a1 a2 a3 a4 (by omega) (by omega), bne_self_eq_false, Bool.not_true, Bool.false_eq_true, if_false, markSheet_eq a0 a1 a2 a3 a4 1 (by omega) (by omega), markI_eq l 1 (by omega) (by omega), heldI_eq 1 l.length (by omega) (by omega), not_neg (show 0 ≤ 1 + (a3.length : Int) + (a4.length : Int) by omega), not_neg (show 0 ≤ 1 + (l.length : Int) by omega)]
end Go.H
