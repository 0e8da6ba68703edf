/- Windows: the plain law. -/
import Derived.Test.YtohfgnjmgipehaaGWindowOf
import Derived.Test.YtohfgnjmgipehaaPMark
set_option linter.unusedVariables false
namespace Go.H
open Go Ieee

theorem min_eq (x y : Int) : spec_l00Min x y = some (imin x y) := by
  unfold spec_l00Min imin
  by_cases h : x < y
  · rw [if_pos (by simpa using h), if_neg (by omega)]
  · rw [if_neg (by simpa using h)]
    by_cases h2 : y < x
    · rw [if_pos h2]
    · rw [if_neg h2, show x = y by omega]

theorem window_steps (a0 a1 : Int) (l : List (Option Nat)) (k : Int) (hk : decide (k < a1) = true) (hl : l.length ≤ 1000) : ∃ r, impl_WindowOf.s0 a0 a1 l k = some (.inl (l ++ [r], IntKind.wrap .i64 (k + 1))) ∧ spec_WindowOf.s0 a0 a1 l k = some (.inl (l ++ [r], IntKind.wrap .i64 (k + 1))) := by
  have hlen : ∀ r : Option Nat, l.length + [r].length ≤ 1000000000 := by intro r; simp; omega
  unfold impl_WindowOf.s0 spec_WindowOf.s0 impl_windowAt
  rw [if_pos hk, if_pos hk]
  cases h0 : a0 == 0 with
  | true =>
    refine ⟨some 1065353216, ?_, ?_⟩
    · simp only [if_true, some_bind']; rw [if_pos (hlen _)]
    · simp only [if_true]; rw [if_pos (hlen _)]; rfl
  | false =>
    cases h1 : a0 == 1 with
    | true =>
      refine ⟨fop .quo .f32 (fop .mul .f32 (some 1073741824) (fofi .f32 (imin (IntKind.wrap .i64 (k + 1)) (IntKind.wrap .i64 (a1 - k))))) (fofi .f32 (IntKind.wrap .i64 (a1 + 1))), ?_, ?_⟩
      · simp only [if_true, Bool.false_eq_true, if_false, some_bind']; rw [if_pos (hlen _)]
      · simp only [if_true, Bool.false_eq_true, if_false, min_eq, some_bind']; rw [if_pos (hlen _)]; rfl
    | false =>
      obtain ⟨r, hr⟩ := sine_some (fop .add .f32 (some 1048576000) (fop .quo .f32 (fofi .f32 (IntKind.wrap .i64 (k + 1))) (fofi .f32 (IntKind.wrap .i64 (a1 + 1)))))
      refine ⟨fop .sub .f32 (some 1056964608) (fop .mul .f32 (some 1056964608) r), ?_, ?_⟩
      · simp only [Bool.false_eq_true, if_false, sine_eq, hr, some_bind', half32]; rw [if_pos (hlen _)]
      · simp only [Bool.false_eq_true, if_false, hr, some_bind']; rw [if_pos (hlen _)]; rfl

theorem window_loops (a0 a1 : Int) (h1 : 1 ≤ a1) (h2 : a1 ≤ 64) : ∃ l, l.length ≤ 64 ∧ loopF (fun (s : ((List (Option Nat)) × Int)) => impl_WindowOf.s0 a0 a1 s.1 s.2) (([] : List (Option Nat)), 0) = some (a1, false, l) ∧ loopF (fun (s : ((List (Option Nat)) × Int)) => spec_WindowOf.s0 a0 a1 s.1 s.2) (([] : List (Option Nat)), 0) = some (a1, false, l) := by
  have key : ∀ m : Nat, (m : Int) ≤ a1 → ∃ l, l.length = m ∧ loopF (fun (s : ((List (Option Nat)) × Int)) => impl_WindowOf.s0 a0 a1 s.1 s.2) (([] : List (Option Nat)), 0) = loopF (fun (s : ((List (Option Nat)) × Int)) => impl_WindowOf.s0 a0 a1 s.1 s.2) (l, (m : Int)) ∧ loopF (fun (s : ((List (Option Nat)) × Int)) => spec_WindowOf.s0 a0 a1 s.1 s.2) (([] : List (Option Nat)), 0) = loopF (fun (s : ((List (Option Nat)) × Int)) => spec_WindowOf.s0 a0 a1 s.1 s.2) (l, (m : Int)) := by
    intro m
    induction m with
    | zero => intro _; exact ⟨[], rfl, rfl, rfl⟩
    | succ m ih =>
      intro hm
      obtain ⟨l, hl, g1, g2⟩ := ih (by omega)
      obtain ⟨r, r1, r2⟩ := window_steps a0 a1 l m (by simp; omega) (by omega)
      have e : IntKind.wrap .i64 ((m : Int) + 1) = ((m + 1 : Nat) : Int) := by rw [wrap_small (by omega) (by omega)]; rfl
      rw [e] at r1 r2
      exact ⟨l ++ [r], by simp [hl], g1.trans (loopF_next r1), g2.trans (loopF_next r2)⟩
  obtain ⟨l, hl, g1, g2⟩ := key a1.toNat (by omega)
  have ea : ((a1.toNat : Nat) : Int) = a1 := by omega
  rw [ea] at g1 g2
  refine ⟨l, by omega, ?_, ?_⟩
  · rw [g1]
    apply loopF_stop
    show impl_WindowOf.s0 a0 a1 l a1 = _
    unfold impl_WindowOf.s0
    simp
  · rw [g2]
    apply loopF_stop
    show spec_WindowOf.s0 a0 a1 l a1 = _
    unfold spec_WindowOf.s0
    simp

theorem window_eq (a0 a1 : Int) : ∃ r, r.1.length ≤ 64 ∧ spec_WindowOf a0 a1 = some r ∧ impl_WindowOf a0 a1 = some r := by
  unfold spec_WindowOf impl_WindowOf spec_l06Count spec_l00In impl_within
  simp only [ite_andB, some_bind', ite_orB]
  by_cases h : (!(decide (a0 ≥ 0) && decide (a0 ≤ 2)) || !(decide (a1 ≥ 1) && decide (a1 ≤ 64))) = true
  · rw [if_pos h, if_pos h]; exact ⟨([], false), by simp, rfl, rfl⟩
  · rw [if_neg h, if_neg h]
    simp only [Bool.or_eq_true, Bool.not_eq_true', Bool.and_eq_false_iff, decide_eq_false_iff_not, not_or] at h
    obtain ⟨l, hl, g1, g2⟩ := window_loops a0 a1 (by omega) (by omega)
    rw [g1, g2]
    exact ⟨(l, true), hl, rfl, rfl⟩

theorem laws_FnExactWindowOf_true (a0 a1 : Int) : laws_FnExactWindowOf a0 a1 = some true := by
  unfold laws_FnExactWindowOf
  obtain ⟨⟨l, b⟩, hl, h1, h2⟩ := window_eq a0 a1
  simp only at hl
  simp only [h1, h2, some_bind', eqFloat32S_self l (by omega), bne_self_eq_false, Bool.not_true, Bool.false_eq_true, if_false, markF_eq l 1 (by omega) (by omega), heldF_eq 1 l.length (by omega) (by omega)]
  have : decide (1 + (l.length : Int) < 0) = false := by simp; omega
  simp only [this, Bool.false_eq_true, if_false]
end Go.H
