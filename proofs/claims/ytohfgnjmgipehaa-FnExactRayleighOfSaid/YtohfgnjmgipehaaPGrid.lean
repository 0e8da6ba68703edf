/- Marks and copies of sheets and fields. -/
import Derived.Test.YtohfgnjmgipehaaPMark
import Derived.Test.YtohfgnjmgipehaaPFold
set_option linter.unusedVariables false
namespace Go.H
open Go Ieee

theorem eqInt64S_self (a : List Int) (h : a.length ≤ 1000000000) : laws_eqInt64S a a = some true := by
  unfold laws_eqInt64S
  rw [if_neg (by simp)]
  obtain ⟨st, _⟩ := loop_fold (step := fun (s : (Bool × Int)) => laws_eqInt64S.s0 a a s.1 s.2) (fun (s : Unit) k => (false, (k : Int))) (fun _ s => s) (fun _ _ => True) a.length (fun _ => .inl (false, (a.length : Int), decide ((a.length : Int) < (a.length : Int)))) () trivial (fun k s hk _ => by
    refine ⟨?_, trivial⟩
    show laws_eqInt64S.s0 a a false (k : Int) = _
    unfold laws_eqInt64S.s0
    rw [if_pos (by simp; omega), idx_nat, List.getElem?_eq_getElem hk]
    simp only [some_bind', bne_self_eq_false, Bool.false_eq_true, if_false]
    rw [one_more (by omega)]) (fun s _ => by
    show laws_eqInt64S.s0 a a false (a.length : Int) = _
    unfold laws_eqInt64S.s0
    rw [if_neg (by simp)])
  have e0 : ((0 : Nat) : Int) = 0 := rfl
  rw [e0] at st
  rw [st]
  rfl

theorem markSheet_eq (a0 a1 : Int) (a2 : Bool) (a3 a4 : List (Option Nat)) (n : Int) (h0 : 0 ≤ n) (h1 : n + a3.length + a4.length ≤ 1000000000000) : laws_markSheet a0 a1 a2 a3 a4 n = some (n + a3.length + a4.length, marks (fun i => fofi .f32 i) n a3.length, marks (fun i => fofi .f32 i) (n + a3.length) a4.length) := by
  unfold laws_markSheet
  rw [markF_eq a3 n h0 (by omega), some_bind', markF_eq a4 _ (by simp only; omega) (by simp only; omega), some_bind']
theorem markField_eq (a0 a1 a2 : List (Option Nat)) (n : Int) (h0 : 0 ≤ n) (h1 : n + a0.length + a1.length + a2.length ≤ 1000000000000) : laws_markField a0 a1 a2 n = some (n + a0.length + a1.length + a2.length, marks (fun i => fofi .f32 i) n a0.length, marks (fun i => fofi .f32 i) (n + a0.length) a1.length, marks (fun i => fofi .f32 i) (n + a0.length + a1.length) a2.length) := by
  unfold laws_markField
  rw [markF_eq a0 n h0 (by omega), some_bind', markF_eq a1 _ (by simp only; omega) (by simp only; omega), some_bind', markF_eq a2 _ (by simp only; omega) (by simp only; omega), some_bind']
theorem heldField_eq (n : Int) (k m j : Nat) (h0 : 0 ≤ n) (h1 : n + k + m + j ≤ 1000000000000) : laws_heldField (marks (fun i => fofi .f32 i) n k) (marks (fun i => fofi .f32 i) (n + k) m) (marks (fun i => fofi .f32 i) (n + k + m) j) n = some (n + k + m + j) := by
  unfold laws_heldField
  rw [heldF_eq n k h0 (by omega), some_bind', if_neg (by simp; omega), heldF_eq (n + k) m (by omega) (by omega), some_bind', if_neg (by simp; omega), heldF_eq (n + k + m) j (by omega) (by omega), some_bind', if_neg (by simp; omega)]
theorem szField_cases (a3 a4 a5 : List (Option Nat)) (n : Int) (h0 : 0 ≤ n) (h1 : n ≤ 1048576) (h3 : a3.length ≤ 9223372036854775807) (h4 : a4.length ≤ 9223372036854775807) (h5 : a5.length ≤ 9223372036854775807) :
    (laws_szField a3 a4 a5 n = some (-1)) ∨ (laws_szField a3 a4 a5 n = some (n - a3.length - a4.length - a5.length) ∧ (a3.length : Int) + a4.length + a5.length ≤ n) := by
  unfold laws_szField
  rcases szFloat32S_cases a3 n h0 h1 h3 with h | ⟨h, hl⟩
  · rw [h]; exact .inl rfl
  · rw [h, some_bind', if_neg (by simp; omega)]
    rcases szFloat32S_cases a4 (n - a3.length) (by omega) (by omega) h4 with h | ⟨h, hl'⟩
    · rw [h]; exact .inl rfl
    · rw [h, some_bind', if_neg (by simp; omega)]
      rcases szFloat32S_cases a5 (n - a3.length - a4.length) (by omega) (by omega) h5 with h | ⟨h, hl''⟩
      · rw [h]; exact .inl rfl
      · rw [h, some_bind', if_neg (by simp; omega)]
        exact .inr ⟨rfl, by omega⟩
theorem toField_eq (a3 a4 a5 : List (Option Nat)) (h3 : a3.length ≤ 1000000000) (h4 : a4.length ≤ 1000000000) (h5 : a5.length ≤ 1000000000) : laws_toField a3 a4 a5 = some (a3, a4, a5) := by
  unfold laws_toField
  rw [toFloat32S_eq a3 h3, toFloat32S_eq a4 h4, toFloat32S_eq a5 h5]; rfl
theorem eqField_self (a3 a4 a5 : List (Option Nat)) (h3 : a3.length ≤ 1000000000) (h4 : a4.length ≤ 1000000000) (h5 : a5.length ≤ 1000000000) : laws_eqField a3 a4 a5 a3 a4 a5 = some true := by
  unfold laws_eqField
  rw [eqFloat32S_self a3 h3, eqFloat32S_self a4 h4, eqFloat32S_self a5 h5]
  simp
end Go.H
