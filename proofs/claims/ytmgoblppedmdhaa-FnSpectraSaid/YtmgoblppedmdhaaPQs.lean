/- Records of quarters, as integers. -/
import Derived.Test.YtmgoblppedmdhaaPRec
set_option linter.unusedVariables false
namespace Go.H
open Go Ieee

/-- a list of quarters, as integers -/
structure Qs (l : List (Option Nat)) (n : Nat) (g : Nat → Int) : Prop where
  len : l.length = n
  val : ∀ i, i < n → ∃ x, l[i]? = some x ∧ valf .f32 x = some (g i * 2 ^ 2398)
  lo : ∀ i, -8 ≤ g i
  hi : ∀ i, g i ≤ 8

theorem zero32 : valf .f32 (some 0) = some 0 := by decide +kernel

theorem quarters_qs {l : List (Option Nat)} (h : ∀ v ∈ l, ∃ c, c < 17 ∧ v = quart c) : ∃ g : Nat → Int, Qs l l.length g := by
  classical
  refine ⟨fun i => if h : ∃ c : Nat, c < 17 ∧ l[i]? = some (quart c) then ((Classical.choose h : Nat) : Int) - 8 else 0, rfl, fun i hi => ?_, fun i => ?_, fun i => ?_⟩
  · have hex : ∃ c : Nat, c < 17 ∧ l[i]? = some (quart c) := by
      obtain ⟨c, c1, c2⟩ := h l[i] (List.getElem_mem hi)
      exact ⟨c, c1, by rw [List.getElem?_eq_getElem hi, c2]⟩
    obtain ⟨c1, c2⟩ := Classical.choose_spec hex
    refine ⟨_, c2, ?_⟩
    simp only [dif_pos hex]
    exact quart_val _ c1
  · split
    · omega
    · omega
  · split
    · rename_i hex
      have := (Classical.choose_spec hex).1
      omega
    · omega

end Go.H
