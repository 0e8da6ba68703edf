/- Folds that add to a list. -/
import Derived.Test.YtjlnfficehomhaaGreatDoorPFold
set_option linter.unusedVariables false
namespace Go.H

/-- a fold that adds what each place gives -/
theorem fold_cat {α : Type} (g : Nat → List α) (s : List α) : ∀ n, foldN (fun k t => t ++ g k) n s = s ++ (List.range n).flatMap g
  | 0 => by simp [foldN]
  | n + 1 => by
    show foldN (fun k t => t ++ g k) n s ++ g n = _
    rw [fold_cat g s n, List.range_succ, List.flatMap_append, List.append_assoc]
    simp

/-- the elements of a list, one after another -/
theorem flat_range {α β : Type} (l : List α) (f : α → List β) : (List.range l.length).flatMap (fun k => (l[k]?.map f).getD []) = l.flatMap f := by
  induction l with
  | nil => rfl
  | cons x l ih =>
    rw [List.length_cons, List.range_succ_eq_map, List.flatMap_cons, List.flatMap_cons]
    congr 1
    rw [List.flatMap_map]
    rw [← ih]
    congr 1

theorem flat_filter {α β : Type} (l : List α) (c : α → Bool) (g : α → β) : l.flatMap (fun x => if c x = true then [g x] else []) = (l.filter c).map g := by
  induction l with
  | nil => rfl
  | cons x l ih =>
    rw [List.flatMap_cons, ih]
    cases h : c x <;> simp [h]
end Go.H
