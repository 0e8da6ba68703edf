/- Small laws of the texts that follow. -/
import Derived.Test.YtjlnfficehomhaaDoorLibD
import Derived.Test.YtjlnfficehomhaaDoorGBase
set_option linter.unusedVariables false
namespace Go.H
open Go Ieee

theorem some_bind' {α β : Type} (a : α) (f : α → Option β) : (some a).bind f = f a := rfl
theorem ite_some {α : Type} (p : Prop) [Decidable p] (a b : α) : (if p then some a else some b) = some (if p then a else b) := by split <;> rfl

theorem bind_id' {α : Type} (x : Option α) : (x.bind fun y => some y) = x := by cases x <;> rfl

theorem same_self (x : Option Nat) (h : Cl x) : laws_sameFloat x x = some true := by
  unfold laws_sameFloat
  cases x with
  | none => rfl
  | some b =>
    have h1 := eql_self (k := .f64) (h b rfl)
    have h2 : fcmp .neq .f64 (some b) (some b) = false := by
      show (!feq .f64 (some b) (some b)) = false
      have : feq .f64 (some b) (some b) = true := h1
      rw [this]; rfl
    simp only [h1, h2, Bool.false_eq_true, if_false, some_bind']
    cases fcmp .eql .f64 (some b) (some 0) <;> simp

end Go.H
