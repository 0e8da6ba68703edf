/- Cells, and loops that call a function with each cell. -/
import Derived.Test.YtjlnfficehomhaaGreatDoorPNest
set_option linter.unusedVariables false
namespace Go.H
open Go Ieee

theorem in_eq (x a b : Int) : spec_l00In x a b = some (decide (x ≥ a) && decide (x ≤ b)) ∧ impl_within x a b = some (decide (x ≥ a) && decide (x ≤ b)) := by
  unfold spec_l00In impl_within
  simp only [ite_andB, some_bind', and_self]

theorem cell_mod {w x y : Nat} (hx : x < w) : (x + w * y) % w = x := by rw [Nat.add_mul_mod_self_left, Nat.mod_eq_of_lt hx]
theorem cell_div {w x y : Nat} (hx : x < w) : (x + w * y) / w = y := by rw [Nat.add_mul_div_left _ _ (by omega), Nat.div_eq_of_lt hx, Nat.zero_add]

end Go.H
