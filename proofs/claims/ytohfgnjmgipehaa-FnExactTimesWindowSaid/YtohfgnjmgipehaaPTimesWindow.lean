/- Products of two records: the plain law. -/
import Derived.Test.YtohfgnjmgipehaaGTimesWindow
import Derived.Test.YtohfgnjmgipehaaPGrid
set_option linter.unusedVariables false
namespace Go.H
open Go Ieee

theorem record_eq (a : List (Option Nat)) : impl_isRecord_float32 a = some (decide ((a.length : Int) ≥ 1) && decide ((a.length : Int) ≤ 64)) ∧ spec_l06Is a = some (decide ((a.length : Int) ≥ 1) && decide ((a.length : Int) ≤ 64)) := by
  unfold impl_isRecord_float32 spec_l06Is spec_l06Count impl_within spec_l00In
  simp only [ite_andB, some_bind', and_self]

theorem times_eq (a b : List (Option Nat)) : ∃ r, r.1.length ≤ 64 ∧ spec_TimesWindow a b = some r ∧ impl_TimesWindow a b = some r := by
  unfold spec_TimesWindow impl_TimesWindow
  rw [(record_eq a).1, (record_eq a).2]
  simp only [some_bind', ite_orB]
  by_cases h : (!(decide ((a.length : Int) ≥ 1) && decide ((a.length : Int) ≤ 64)) || ((b.length : Int) != (a.length : Int))) = true
  · rw [if_pos h, if_pos h]; exact ⟨([], false), by simp, rfl, rfl⟩
  · rw [if_neg h, if_neg h]
    simp only [Bool.or_eq_true, Bool.not_eq_true', Bool.and_eq_false_iff, decide_eq_false_iff_not, not_or, bne_iff_ne, ne_eq, Classical.not_not] at h
    have hb : b.length = a.length := by omega
    let f := fun (k : Nat) (s : List (Option Nat)) => s ++ [fop .mul .f32 (a[k]?.getD none) (b[k]?.getD none)]
    have A := loop_fold (step := fun (s : ((List (Option Nat)) × Int)) => spec_TimesWindow.s0 a b s.1 s.2) (fun s k => (s, (k : Int))) f (fun k s => s.length = k) a.length (fun s => ((a.length : Int), false, s)) [] rfl (fun k s hk hI => by
      refine ⟨?_, by simp [f, hI]⟩
      show spec_TimesWindow.s0 a b s (k : Int) = _
      unfold spec_TimesWindow.s0
      rw [if_pos (by simp; omega), idx_nat, idx_nat, List.getElem?_eq_getElem hk, List.getElem?_eq_getElem (show k < b.length by omega), some_bind', some_bind', if_pos (by simp; omega), one_more (by omega)]
      simp only [f, List.getElem?_eq_getElem hk, List.getElem?_eq_getElem (show k < b.length by omega), Option.getD_some]) (fun s hI => by
      show spec_TimesWindow.s0 a b s (a.length : Int) = _
      unfold spec_TimesWindow.s0
      rw [if_neg (by simp)]
      simp)
    have B := loop_fold (step := fun (s : ((List (Option Nat)) × Int)) => impl_both__impl_TimesWindow_1.s0 a b s.1 s.2) (fun s k => (s, (k : Int))) f (fun k s => s.length = k) a.length (fun s => ((a.length : Int), false, s)) [] rfl (fun k s hk hI => by
      refine ⟨?_, by simp [f, hI]⟩
      show impl_both__impl_TimesWindow_1.s0 a b s (k : Int) = _
      unfold impl_both__impl_TimesWindow_1.s0 impl_TimesWindow_1
      rw [if_pos (by simp; omega), idx_nat, idx_nat, List.getElem?_eq_getElem hk, List.getElem?_eq_getElem (show k < b.length by omega), some_bind', some_bind', some_bind', if_pos (by simp; omega), one_more (by omega)]
      simp only [f, List.getElem?_eq_getElem hk, List.getElem?_eq_getElem (show k < b.length by omega), Option.getD_some]) (fun s hI => by
      show impl_both__impl_TimesWindow_1.s0 a b s (a.length : Int) = _
      unfold impl_both__impl_TimesWindow_1.s0
      rw [if_neg (by simp)]
      simp)
    refine ⟨(foldN f a.length [], true), ?_, ?_, ?_⟩
    · have := A.2; simp only; omega
    · have := A.1; simp only [Int.ofNat_zero, Int.natCast_zero] at this; rw [this]; rfl
    · unfold impl_both__impl_TimesWindow_1
      have := B.1; simp only [Int.ofNat_zero, Int.natCast_zero] at this; rw [this]; rfl

theorem laws_FnExactTimesWindow_true (a b : List (Option Nat)) (h1 : a.length ≤ 9223372036854775807) (h2 : b.length ≤ 9223372036854775807) : laws_FnExactTimesWindow a b = some true := by
  unfold laws_FnExactTimesWindow
  by_cases ha : (decide ((a.length : Int) > 1048576)) = true
  · rw [if_pos ha]
  · by_cases hb : (decide ((b.length : Int) > 1048576)) = true
    · rw [if_neg ha, if_pos hb]
    · rw [if_neg ha, if_neg hb]
      simp only [decide_eq_true_eq] at ha hb
      obtain ⟨⟨l, r⟩, hl, e1, e2⟩ := times_eq a b
      simp only at hl
      simp only [toFloat32S_eq a (by omega), toFloat32S_eq b (by omega), e1, e2, some_bind', eqFloat32S_self l (by omega), eqFloat32S_self a (by omega), eqFloat32S_self b (by omega), bne_self_eq_false, Bool.not_true, Bool.false_eq_true, if_false, markF_eq a 1 (by omega) (by omega), markF_eq b (1 + (a.length : Int)) (by omega) (by omega), markF_eq l 1 (by omega) (by omega), heldF_eq 1 l.length (by omega) (by omega), not_neg (show 0 ≤ 1 + (a.length : Int) + (b.length : Int) by omega), not_neg (show 0 ≤ 1 + (l.length : Int) by omega)]
end Go.H
