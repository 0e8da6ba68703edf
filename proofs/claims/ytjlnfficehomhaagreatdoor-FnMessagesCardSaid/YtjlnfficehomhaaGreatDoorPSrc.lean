/- Numbers that are drawn. -/
import Derived.Test.YtjlnfficehomhaaGreatDoorGSrc
import Derived.Test.YtjlnfficehomhaaGreatDoorPLoop
set_option linter.unusedVariables false
namespace Go.H
open Go Ieee

theorem wrapU_small {n : Int} (h0 : 0 ≤ n) (h1 : n ≤ 9223372036854775807) : IntKind.wrap .u64 n = n := by
  unfold IntKind.wrap
  show (if (false && decide (n % 18446744073709551616 ≥ 9223372036854775808)) = true then n % 18446744073709551616 - 18446744073709551616 else n % 18446744073709551616) = n
  simp only [Bool.false_and, Bool.false_eq_true, if_false]
  omega

theorem and255 (x : Int) : 0 ≤ bits .and .u64 x 255 ∧ bits .and .u64 x 255 ≤ 255 := by
  have h : (BitVec.ofInt 64 x &&& BitVec.ofInt 64 255).toNat ≤ 255 := by
    rw [BitVec.toNat_and]
    exact Nat.le_trans Nat.and_le_right (by decide)
  show 0 ≤ IntKind.wrap .u64 ((BitVec.ofInt 64 x &&& BitVec.ofInt 64 255).toNat : Int) ∧ IntKind.wrap .u64 ((BitVec.ofInt 64 x &&& BitVec.ofInt 64 255).toNat : Int) ≤ 255
  rw [wrapU_small (by omega) (by omega)]
  omega

section
variable {a : List Int} (hb : ∀ x ∈ a, 0 ≤ x ∧ x ≤ 255)
include hb

theorem next_ok (p s : Int) (h0 : 0 ≤ p) (h1 : p ≤ 1000000000) : ∃ r q, spec_l00Src_next a p s = some (r, p + 1, q) ∧ 0 ≤ r ∧ r ≤ 255 := by
  have key : ∀ x : Int, 0 ≤ x → x ≤ 255 → ∃ r q, (if (decide ((IntKind.wrap .i64 (p + 1)) ≤ (a.length : Int))) = true then some (x, IntKind.wrap .i64 (p + 1), IntKind.wrap .u64 ((IntKind.wrap .u64 ((IntKind.wrap .u64 (s * 6364136223846793005)) + (IntKind.wrap .u64 x))) + 1442695040888963407)) else some (IntKind.wrap .i64 (bits .and .u64 (bits .shr .u64 (IntKind.wrap .u64 ((IntKind.wrap .u64 ((IntKind.wrap .u64 (s * 6364136223846793005)) + (IntKind.wrap .u64 x))) + 1442695040888963407)) 40) 255), IntKind.wrap .i64 (p + 1), IntKind.wrap .u64 ((IntKind.wrap .u64 ((IntKind.wrap .u64 (s * 6364136223846793005)) + (IntKind.wrap .u64 x))) + 1442695040888963407))) = some (r, p + 1, q) ∧ 0 ≤ r ∧ r ≤ 255 := by
    intro x x0 x1
    rw [wrap_small (n := p + 1) (by omega) (by omega)]
    split
    · exact ⟨x, _, rfl, x0, x1⟩
    · obtain ⟨a1, a2⟩ := and255 (bits .shr .u64 (IntKind.wrap .u64 ((IntKind.wrap .u64 ((IntKind.wrap .u64 (s * 6364136223846793005)) + (IntKind.wrap .u64 x))) + 1442695040888963407)) 40)
      refine ⟨_, _, rfl, ?_, ?_⟩ <;> rw [wrap_small (by omega) (by omega)] <;> omega
  unfold spec_l00Src_next
  by_cases hp : p < (a.length : Int)
  · rw [if_pos (by simpa using hp)]
    obtain ⟨k, rfl⟩ := Int.eq_ofNat_of_zero_le h0
    have hk : k < a.length := by omega
    have hx := hb a[k] (List.getElem_mem hk)
    rw [idx_nat, List.getElem?_eq_getElem hk]
    simp only [some_bind']
    rw [wrap_small (n := a[k]) (by omega) (by omega)]
    exact key _ hx.1 hx.2
  · rw [if_neg (by simpa using hp)]
    exact key 0 (by omega) (by omega)

theorem pick_ok (p s n : Int) (h0 : 0 ≤ p) (h1 : p ≤ 999999999) : ∃ r p' q, spec_l00Src_pick a p s n = some (r, p', q) ∧ 0 ≤ r ∧ (r < n ∨ r = 0) ∧ p ≤ p' ∧ p' ≤ p + 2 := by
  unfold spec_l00Src_pick
  by_cases hn : n ≤ 1
  · rw [if_pos (by simpa using hn)]
    exact ⟨0, p, s, rfl, by omega, .inr rfl, by omega, by omega⟩
  · rw [if_neg (by simpa using hn)]
    obtain ⟨r1, q1, e1, a1, a2⟩ := next_ok hb p s h0 (by omega)
    rw [e1, some_bind']
    by_cases h2 : n > 200
    · rw [if_pos (by simpa using h2)]
      obtain ⟨r2, q2, e2, b1, b2⟩ := next_ok hb (p + 1) q1 (by omega) (by omega)
      simp only [e2, some_bind']
      rw [if_neg (by omega), wrap_small (n := r1 * 256) (by omega) (by omega), wrap_small (n := r1 * 256 + r2) (by omega) (by omega)]
      exact ⟨_, _, _, rfl, Int.tmod_nonneg _ (by omega), .inl (Int.tmod_lt_of_pos _ (by omega)), by omega, by omega⟩
    · rw [if_neg (by simpa using h2)]
      simp only [some_bind']
      rw [if_neg (by omega)]
      exact ⟨_, _, _, rfl, Int.tmod_nonneg _ (by omega), .inl (Int.tmod_lt_of_pos _ (by omega)), by omega, by omega⟩

end
end Go.H
