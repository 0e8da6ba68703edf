/- Fields that fit: more of them. -/
import Derived.Test.YtohfgnjmgipehaaPField
set_option linter.unusedVariables false
namespace Go.H
open Go Ieee

theorem field_num {a0 a1 : Int} {a2 : Bool} {a3 a4 e x y : List (Option Nat)} (h : impl_IsField a0 a1 a2 a3 a4 e x y = some true) : ∃ w k : Nat, a0 = w ∧ a1 = k ∧ 3 ≤ w ∧ w ≤ 16 ∧ 3 ≤ k ∧ k ≤ 16 ∧ e.length = w * k ∧ x.length = w * k ∧ y.length = w * k ∧ impl_ValidSheet a0 a1 a2 a3 a4 = some true := by
  unfold impl_IsField at h
  cases hv : impl_ValidSheet a0 a1 a2 a3 a4 with
  | none => rw [hv] at h; cases h
  | some v =>
    rw [hv] at h
    cases v with
    | false => cases h
    | true =>
      obtain ⟨w, k, rfl, rfl, w1, w2, k1, k2, l3, l4⟩ := valid_has hv
      simp only [some_bind', area_eq w2 k2, Bool.not_true, Bool.false_eq_true, if_false, ite_some] at h
      have q : ∀ n : Nat, ((n : Int) != ((w * k : Nat) : Int)) = false → n = w * k := by intro n hn; simp at hn; omega
      cases q1 : ((e.length : Int) != ((w * k : Nat) : Int)) with
      | true => rw [q1] at h; cases h
      | false => cases q2 : ((x.length : Int) != ((w * k : Nat) : Int)) with
        | true => rw [q1, q2] at h; cases h
        | false => cases q3 : ((y.length : Int) != ((w * k : Nat) : Int)) with
          | true => rw [q1, q2, q3] at h; cases h
          | false => exact ⟨w, k, rfl, rfl, w1, w2, k1, k2, q _ q1, q _ q2, q _ q3, rfl⟩

theorem fits_eq {a0 a1 : Int} {a2 : Bool} {a3 a4 : List (Option Nat)} (e x y : List (Option Nat)) (h3 : a3.length ≤ 1000000000) (h4 : a4.length ≤ 1000000000) (hs : spec_l02Is a0 a1 a2 a3 a4 = some true) : ∃ b, spec_l02Fits a0 a1 a2 a3 a4 e x y = some b ∧ impl_IsField a0 a1 a2 a3 a4 e x y = some b := by
  obtain ⟨b, h1, h2⟩ := field_eq a0 a1 a2 a3 a4 e x y h3 h4
  unfold spec_l03Both at h1
  rw [hs] at h1
  simp only [some_bind', if_true] at h1
  cases hf : spec_l02Fits a0 a1 a2 a3 a4 e x y with
  | none => rw [hf] at h1; cases h1
  | some c =>
    rw [hf] at h1
    cases h1
    exact ⟨_, rfl, h2⟩

theorem copyOf_eq {l : List (Option Nat)} (h : l.length ≤ 1000000000) : impl_copyOf l = some l := by
  unfold impl_copyOf
  rw [if_pos (by simpa using h)]; rfl

theorem ownF_eq {e x y : List (Option Nat)} (h1 : e.length ≤ 1000000000) (h2 : x.length ≤ 1000000000) (h3 : y.length ≤ 1000000000) : spec_l02Own e x y = some (e, x, y) ∧ impl_copyField e x y = some (e, x, y) := by
  constructor
  · unfold spec_l02Own
    rw [if_pos (by simpa using h1), if_pos (by simpa using h2), if_pos (by simpa using h3)]; rfl
  · unfold impl_copyField
    rw [copyOf_eq h1, copyOf_eq h2, copyOf_eq h3]; rfl

/-- both tests of a field say that the sheet is valid -/
theorem both_is {a0 a1 : Int} {a2 : Bool} {a3 a4 e x y : List (Option Nat)} (h : spec_l03Both a0 a1 a2 a3 a4 e x y = some true) : spec_l02Is a0 a1 a2 a3 a4 = some true := by
  unfold spec_l03Both at h
  cases hs : spec_l02Is a0 a1 a2 a3 a4 with
  | none => rw [hs] at h; cases h
  | some v => rw [hs] at h; cases v with
    | false => cases h
    | true => rfl
end Go.H
