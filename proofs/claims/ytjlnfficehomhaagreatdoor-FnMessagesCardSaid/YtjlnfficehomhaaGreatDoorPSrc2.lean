/- Floats that are drawn. -/
import Derived.Test.YtjlnfficehomhaaGreatDoorGSrc2
import Derived.Test.YtjlnfficehomhaaGreatDoorPSrc
set_option linter.unusedVariables false
namespace Go.H
open Go Ieee

section
variable {a : List Int} (hb : ∀ x ∈ a, 0 ≤ x ∧ x ≤ 255)
include hb

theorem one_ok (p s n : Int) (h0 : 0 ≤ p) (h1 : p ≤ 999999999) : ∃ r p' q, spec_l00Src_one a p s n = some (r, p', q) ∧ p ≤ p' ∧ p' ≤ p + 2 := by
  obtain ⟨r, p', q, e, _, _, c1, c2⟩ := pick_ok hb p s n h0 h1
  unfold spec_l00Src_one
  rw [e]
  exact ⟨_, _, _, rfl, c1, c2⟩

theorem plain_ok (p s : Int) (h0 : 0 ≤ p) (h1 : p ≤ 999999990) : ∃ r p' q, spec_l01DrawPlain a p s = some (r, p', q) ∧ p ≤ p' ∧ p' ≤ p + 4 := by
  obtain ⟨r, p', q, e, _, _, c1, c2⟩ := pick_ok hb p s 129 h0 (by omega)
  obtain ⟨o, p2, q2, e2, d1, d2⟩ := one_ok hb p' q 4 (by omega) (by omega)
  unfold spec_l01DrawPlain
  rw [e]
  simp only [some_bind', e2]
  split
  · exact ⟨_, _, _, rfl, by omega, by omega⟩
  · exact ⟨_, _, _, rfl, by omega, by omega⟩

theorem among_ok (p s : Int) (l : List Int) (hl : 1 ≤ l.length) (h0 : 0 ≤ p) (h1 : p ≤ 999999990) : ∃ r p' q, spec_l00Src_among_o a p s l = some (r, p', q, l) ∧ p ≤ p' ∧ p' ≤ p + 2 := by
  obtain ⟨r, p', q, e, r0, r1, c1, c2⟩ := pick_ok hb p s l.length h0 (by omega)
  obtain ⟨k, rfl⟩ := Int.eq_ofNat_of_zero_le r0
  have hk : k < l.length := by omega
  unfold spec_l00Src_among_o
  rw [e]
  simp only [some_bind', idx_nat, List.getElem?_eq_getElem hk]
  exact ⟨_, _, _, rfl, c1, c2⟩

omit hb in
theorem from_ok (n : Int) : ∃ v, spec_l01From n = some v := by
  have h : 0 ≤ IntKind.wrap .u32 n ∧ IntKind.wrap .u32 n < 4294967296 := by
    unfold IntKind.wrap
    show 0 ≤ (if (false && decide (n % 4294967296 ≥ 2147483648)) = true then n % 4294967296 - 4294967296 else n % 4294967296) ∧ (if (false && decide (n % 4294967296 ≥ 2147483648)) = true then n % 4294967296 - 4294967296 else n % 4294967296) < 4294967296
    simp only [Bool.false_and, Bool.false_eq_true, if_false]
    omega
  unfold spec_l01From ffrom
  rw [if_pos ⟨h.1, by show (IntKind.wrap .u32 n).toNat < 2 ^ 32; omega⟩]
  exact ⟨_, rfl⟩

theorem float_ok (p s : Int) (h0 : 0 ≤ p) (h1 : p ≤ 999999900) : ∃ r p' q, spec_l01DrawFloat a p s = some (r, p', q) ∧ p ≤ p' ∧ p' ≤ p + 10 := by
  unfold spec_l01DrawFloat
  obtain ⟨o, p1, q1, e1, c1, c2⟩ := one_ok hb p s 12 h0 (by omega)
  rw [e1, some_bind']
  by_cases ho : (!o) = true
  · rw [if_pos ho]
    obtain ⟨v, p2, q2, e2, d1, d2⟩ := plain_ok hb p1 q1 (by omega) (by omega)
    simp only [e2, some_bind']
    exact ⟨_, _, _, rfl, by omega, by omega⟩
  · rw [if_neg ho]
    obtain ⟨r, p2, q2, e2, _, _, d1, d2⟩ := pick_ok hb p1 q1 4 (by omega) (by omega)
    simp only [e2, some_bind']
    split
    · obtain ⟨v, p3, q3, e3, f1, f2⟩ := among_ok hb p2 q2 [0, 2147483648, 2139095040, 4286578688, 2143289344, 1, 2139095039, 8388608, 8388607, 2147483649] (by simp) (by omega) (by omega)
      obtain ⟨z, hz⟩ := from_ok v
      simp only [e3, some_bind', hz]
      exact ⟨_, _, _, rfl, by omega, by omega⟩
    · split
      · obtain ⟨v, p3, q3, e3, _, _, f1, f2⟩ := pick_ok hb p2 q2 65536 (by omega) (by omega)
        obtain ⟨u, p4, q4, e4, _, _, g1, g2⟩ := pick_ok hb p3 q3 65536 (by omega) (by omega)
        obtain ⟨z, hz⟩ := from_ok (IntKind.wrap .i64 ((IntKind.wrap .i64 (v * 65536)) + u))
        simp only [e3, e4, some_bind', hz]
        exact ⟨_, _, _, rfl, by omega, by omega⟩
      · split
        · obtain ⟨v, p3, q3, e3, _, _, f1, f2⟩ := pick_ok hb p2 q2 65536 (by omega) (by omega)
          obtain ⟨z, hz⟩ := from_ok (IntKind.wrap .i64 (v * 65536))
          simp only [e3, some_bind', hz]
          exact ⟨_, _, _, rfl, by omega, by omega⟩
        · obtain ⟨v, p3, q3, e3, f1, f2⟩ := plain_ok hb p2 q2 (by omega) (by omega)
          obtain ⟨u, p4, q4, e4, g1, g2⟩ := among_ok hb p3 q3 [8388608, 2130706432, 1610612736, 536870912] (by simp) (by omega) (by omega)
          obtain ⟨z, hz⟩ := from_ok u
          simp only [e3, e4, some_bind', hz]
          exact ⟨_, _, _, rfl, by omega, by omega⟩
end

end Go.H
