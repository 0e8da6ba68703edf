/- The flux through a column: the plain law. -/
import Derived.Test.YtohfgnjmgipehaaGFluxThrough
set_option linter.unusedVariables false
namespace Go.H
open Go Ieee

theorem in_eq (x a b : Int) : spec_l00In x a b = some (decide (x ≥ a) && decide (x ≤ b)) ∧ impl_within x a b = some (decide (x ≥ a) && decide (x ≤ b)) := by
  unfold spec_l00In impl_within
  simp only [ite_andB, some_bind', and_self]

/-- a field that fits has as many numbers as there are cells -/
theorem field_has {a0 a1 : Int} {a2 : Bool} {a3 a4 e x y : List (Option Nat)} (h : impl_IsField a0 a1 a2 a3 a4 e x y = some true) : ∃ w k : Nat, a0 = w ∧ a1 = k ∧ 3 ≤ w ∧ w ≤ 16 ∧ 3 ≤ k ∧ k ≤ 16 ∧ a3.length = w * k ∧ a4.length = w * k ∧ e.length = w * k ∧ x.length = w * k ∧ y.length = w * k ∧ impl_ValidSheet a0 a1 a2 a3 a4 = some true := by
  unfold impl_IsField at h
  cases hv : impl_ValidSheet a0 a1 a2 a3 a4 with
  | none => rw [hv] at h; cases h
  | some v =>
    rw [hv] at h
    cases v with
    | false => cases h
    | true =>
      obtain ⟨w, k, rfl, rfl, w1, w2, k1, k2, l3, l4⟩ := valid_has hv
      simp only [some_bind', area_eq w2 k2, Bool.not_true, Bool.false_eq_true, if_false, ite_some] at h
      have q : ∀ n : Nat, ((n : Int) != ((w * k : Nat) : Int)) = false → n = w * k := by intro n hn; simp at hn; omega
      cases q1 : ((e.length : Int) != ((w * k : Nat) : Int)) with
      | true => rw [q1] at h; cases h
      | false => cases q2 : ((x.length : Int) != ((w * k : Nat) : Int)) with
        | true => rw [q1, q2] at h; cases h
        | false => cases q3 : ((y.length : Int) != ((w * k : Nat) : Int)) with
          | true => rw [q1, q2, q3] at h; cases h
          | false => exact ⟨w, k, rfl, rfl, w1, w2, k1, k2, l3, l4, q _ q1, q _ q2, q _ q3, rfl⟩

theorem flux_eq (a0 a1 : Int) (a2 : Bool) (a3 a4 e x y : List (Option Nat)) (c : Int) (h3 : a3.length ≤ 1000000000) (h4 : a4.length ≤ 1000000000) : ∃ r, spec_FluxThrough a0 a1 a2 a3 a4 e x y c = some r ∧ impl_FluxThrough a0 a1 a2 a3 a4 e x y c = some r := by
  unfold spec_FluxThrough impl_FluxThrough
  obtain ⟨v, e1, e2⟩ := field_eq a0 a1 a2 a3 a4 e x y h3 h4
  rw [e1, e2, (in_eq _ _ _).1, (in_eq _ _ _).2]
  cases v with
  | false => exact ⟨(some 0, false), rfl, rfl⟩
  | true =>
    obtain ⟨w, k, rfl, rfl, w1, w2, k1, k2, l3, l4, le, lx, ly, hv⟩ := field_has e2
    have hn := area_le w2 k2
    simp only [some_bind', Bool.not_true, Bool.false_eq_true, if_false]
    rw [wrap_small (n := (w : Int) - 1) (by omega) (by omega)]
    cases hc : (!(decide (c ≥ 0) && decide (c ≤ (w : Int) - 1))) with
    | true => exact ⟨(some 0, false), by simp, by simp⟩
    | false =>
      simp only [Bool.not_eq_false', Bool.and_eq_true, decide_eq_true_eq] at hc
      obtain ⟨m, rfl⟩ := Int.eq_ofNat_of_zero_le (show 0 ≤ c by omega)
      have hm : m < w := by omega
      simp only [Bool.false_eq_true, if_false]
      let f := fun (j : Nat) (s : Option Nat) => fop .add .f32 s (fop .mul .f32 (e[m + w * j]?.getD none) (y[m + w * j]?.getD none))
      have A := loop_fold (step := fun (s : ((Option Nat) × Int)) => spec_FluxThrough.s0 w k e y m s.1 s.2) (fun s j => (s, (j : Int))) f (fun _ _ => True) k (fun s => (s, (k : Int), false)) (some 0) trivial (fun j s hj _ => by
        have hlt := row_lt hm hj
        refine ⟨?_, trivial⟩
        show spec_FluxThrough.s0 w k e y m s (j : Int) = _
        unfold spec_FluxThrough.s0
        rw [if_pos (by simp; omega), place_eq w2 k2 hm hj, idx_nat, idx_nat, List.getElem?_eq_getElem (show m + w * j < e.length by omega), List.getElem?_eq_getElem (show m + w * j < y.length by omega), some_bind', some_bind', one_more (by omega)]
        simp only [f, List.getElem?_eq_getElem (show m + w * j < e.length by omega), List.getElem?_eq_getElem (show m + w * j < y.length by omega), Option.getD_some]) (fun s _ => by
        show spec_FluxThrough.s0 w k e y m s (k : Int) = _
        unfold spec_FluxThrough.s0
        rw [if_neg (by simp)]
        simp)
      have B := loop_fold (step := fun (s : ((Option Nat) × Int)) => impl_FluxThrough.s0 w k a2 a3 a4 e y m s.1 s.2) (fun s j => (s, (j : Int))) f (fun _ _ => True) k (fun s => (s, (k : Int), false)) (some 0) trivial (fun j s hj _ => by
        have hlt := row_lt hm hj
        refine ⟨?_, trivial⟩
        show impl_FluxThrough.s0 w k a2 a3 a4 e y m s (j : Int) = _
        unfold impl_FluxThrough.s0
        rw [if_pos (by simp; omega), at_eq a2 a3 a4 w2 k2 hm hj, some_bind', idx_nat, idx_nat, List.getElem?_eq_getElem (show m + w * j < e.length by omega), List.getElem?_eq_getElem (show m + w * j < y.length by omega), some_bind', some_bind', one_more (by omega)]
        simp only [f, List.getElem?_eq_getElem (show m + w * j < e.length by omega), List.getElem?_eq_getElem (show m + w * j < y.length by omega), Option.getD_some]) (fun s _ => by
        show impl_FluxThrough.s0 w k a2 a3 a4 e y m s (k : Int) = _
        unfold impl_FluxThrough.s0
        rw [if_neg (by simp)]
        simp)
      refine ⟨(foldN f k (some 0), true), ?_, ?_⟩
      · have := A.1; simp only [Int.ofNat_zero] at this; rw [this]; rfl
      · have := B.1; simp only [Int.ofNat_zero] at this; rw [this]; rfl

theorem laws_FnExactFluxThrough_true (a0 a1 : Int) (a2 : Bool) (a3 a4 e x y : List (Option Nat)) (c : Int) (h3 : a3.length ≤ 9223372036854775807) (h4 : a4.length ≤ 9223372036854775807) (he : e.length ≤ 9223372036854775807) (hx : x.length ≤ 9223372036854775807) (hy : y.length ≤ 9223372036854775807) : laws_FnExactFluxThrough a0 a1 a2 a3 a4 e x y c = some true := by
  unfold laws_FnExactFluxThrough
  rcases szSheet_cases a0 a1 a2 a3 a4 1048576 (by omega) (by omega) h3 h4 with h | ⟨h, hl⟩
  · rw [h]; rfl
  · rw [h, some_bind', if_neg (by simp; omega)]
    rcases szField_cases e x y (1048576 - a3.length - a4.length) (by omega) (by omega) he hx hy with h | ⟨h, hl2⟩
    · rw [h]; rfl
    · rw [h, some_bind', if_neg (by simp; omega)]
      obtain ⟨⟨r, b⟩, e1, e2⟩ := flux_eq a0 a1 a2 a3 a4 e x y c (by omega) (by omega)
      simp only [toSheet_eq a0 a1 a2 a3 a4 (by omega) (by omega), toField_eq e x y (by omega) (by omega) (by omega), e1, e2, some_bind', same_self _ (Cl.wid _), eqSheet_self a0 a1 a2 a3 a4 (by omega) (by omega), eqField_self e x y (by omega) (by omega) (by omega), bne_self_eq_false, Bool.not_true, Bool.false_eq_true, if_false]
end Go.H
