/- Marks and copies of sheets and fields. -/
import Derived.Test.YtjlnfficehomhaaDoorPGridI
import Derived.Test.YtjlnfficehomhaaDoorPMarkH
set_option linter.unusedVariables false
namespace Go.H
open Go Ieee

theorem markField_eq (a0 a1 a2 : List (Option Nat)) (n : Int) (h0 : 0 ≤ n) (h1 : n + a0.length + a1.length + a2.length ≤ 1000000000000) : laws_markField a0 a1 a2 n = some (n + a0.length + a1.length + a2.length, marks (fun i => fofi .f32 i) n a0.length, marks (fun i => fofi .f32 i) (n + a0.length) a1.length, marks (fun i => fofi .f32 i) (n + a0.length + a1.length) a2.length) := by
  unfold laws_markField
  rw [markF_eq a0 n h0 (by omega), some_bind', markF_eq a1 _ (by simp only; omega) (by simp only; omega), some_bind', markF_eq a2 _ (by simp only; omega) (by simp only; omega), some_bind']
theorem szField_cases (a3 a4 a5 : List (Option Nat)) (n : Int) (h0 : 0 ≤ n) (h1 : n ≤ 1048576) (h3 : a3.length ≤ 9223372036854775807) (h4 : a4.length ≤ 9223372036854775807) (h5 : a5.length ≤ 9223372036854775807) :
    (laws_szField a3 a4 a5 n = some (-1)) ∨ (laws_szField a3 a4 a5 n = some (n - a3.length - a4.length - a5.length) ∧ (a3.length : Int) + a4.length + a5.length ≤ n) := by
  unfold laws_szField
  rcases szFloat32S_cases a3 n h0 h1 h3 with h | ⟨h, hl⟩
  · rw [h]; exact .inl rfl
  · rw [h, some_bind', if_neg (by simp; omega)]
    rcases szFloat32S_cases a4 (n - a3.length) (by omega) (by omega) h4 with h | ⟨h, hl'⟩
    · rw [h]; exact .inl rfl
    · rw [h, some_bind', if_neg (by simp; omega)]
      rcases szFloat32S_cases a5 (n - a3.length - a4.length) (by omega) (by omega) h5 with h | ⟨h, hl''⟩
      · rw [h]; exact .inl rfl
      · rw [h, some_bind', if_neg (by simp; omega)]
        exact .inr ⟨rfl, by omega⟩
theorem toField_eq (a3 a4 a5 : List (Option Nat)) (h3 : a3.length ≤ 1000000000) (h4 : a4.length ≤ 1000000000) (h5 : a5.length ≤ 1000000000) : laws_toField a3 a4 a5 = some (a3, a4, a5) := by
  unfold laws_toField
  rw [toFloat32S_eq a3 h3, toFloat32S_eq a4 h4, toFloat32S_eq a5 h5]; rfl
theorem eqField_self (a3 a4 a5 : List (Option Nat)) (h3 : a3.length ≤ 1000000000) (h4 : a4.length ≤ 1000000000) (h5 : a5.length ≤ 1000000000) : laws_eqField a3 a4 a5 a3 a4 a5 = some true := by
  unfold laws_eqField
  rw [eqFloat32S_self a3 h3, eqFloat32S_self a4 h4, eqFloat32S_self a5 h5]
  simp
end Go.H
