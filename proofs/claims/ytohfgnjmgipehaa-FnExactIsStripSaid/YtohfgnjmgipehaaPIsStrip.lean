/- Strips: the plain law. -/
import Derived.Test.YtohfgnjmgipehaaGIsStrip
set_option linter.unusedVariables false
namespace Go.H
open Go Ieee

theorem laws_FnExactIsStrip_true (a0 a1 : Int) (a2 : Bool) (a3 a4 : List (Option Nat)) (b0 b1 : Int) (h3 : a3.length ≤ 9223372036854775807) (h4 : a4.length ≤ 9223372036854775807) : laws_FnExactIsStrip a0 a1 a2 a3 a4 b0 b1 = some true := by
  unfold laws_FnExactIsStrip
  rcases szSheet_cases a0 a1 a2 a3 a4 1048576 (by omega) (by omega) h3 h4 with h | ⟨h, hl⟩
  · rw [h]; rfl
  · rw [h, Option.bind_some, if_neg (by simp; omega), toSheet_eq _ _ _ _ _ (by omega) (by omega)]
    obtain ⟨b, h1, h2⟩ := is_eq a0 a1 a2 a3 a4 (by omega) (by omega)
    have h5 : ∃ c, spec_IsStrip a0 a1 a2 a3 a4 b0 b1 = some c ∧ impl_IsStrip a0 a1 a2 a3 a4 b0 b1 = some c := by
      unfold spec_IsStrip impl_IsStrip spec_l07Is spec_l00In impl_within
      rw [h1, h2]
      simp only [ite_andB, Option.bind_some]
      exact ⟨_, rfl, rfl⟩
    obtain ⟨c, h6, h7⟩ := h5
    simp only [Option.bind_some, laws_toStrip, h6, h7, bne_self_eq_false, Bool.false_eq_true, if_false, eqSheet_self a0 a1 a2 a3 a4 (by omega) (by omega), Bool.not_true]
end Go.H
