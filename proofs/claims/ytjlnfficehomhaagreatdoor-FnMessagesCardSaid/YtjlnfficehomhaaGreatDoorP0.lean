/- Small laws of the texts that follow. -/
import Derived.Test.YtjlnfficehomhaaGreatDoorLibD
import Derived.Test.YtjlnfficehomhaaGreatDoorGBase
set_option linter.unusedVariables false
namespace Go.H
open Go Ieee

theorem some_bind' {α β : Type} (a : α) (f : α → Option β) : (some a).bind f = f a := rfl
theorem ite_some {α : Type} (p : Prop) [Decidable p] (a b : α) : (if p then some a else some b) = some (if p then a else b) := by split <;> rfl

theorem bind_id' {α : Type} (x : Option α) : (x.bind fun y => some y) = x := by cases x <;> rfl

end Go.H
