/- Strips: the plain law. -/
import Derived.Test.YtjlnfficehomhaaGreatDoorGSheet
import Derived.Test.YtjlnfficehomhaaGreatDoorPNum
set_option linter.unusedVariables false
namespace Go.H
open Go Ieee

/-- each value of a row lies between nought and 'c' -/
def okTo (c : Nat) (x : Option Nat) : Bool := fcmp .geq .f32 x (some 0) && fcmp .leq .f32 x (some c)

theorem between_eq (a : List (Option Nat)) (c : Nat) (h : a.length ≤ 1000000000) : impl_areBetween a (some c) = some (a.all (okTo c)) := by
  unfold impl_areBetween
  have := loop_all (step := fun (s : (Bool × Int)) => impl_areBetween.s0 a (some c) s.1 s.2) (n := a.length) (fun k => !okTo c (a[k]?.getD none)) false (fun k hk => by
    dsimp only
    unfold impl_areBetween.s0
    rw [if_pos (by simp; omega), idx_nat, List.getElem?_eq_getElem hk, wrap_small (by omega) (by omega)]
    simp only [Option.bind_some, Option.getD_some, Bool.not_false]
    unfold okTo
    rcases Bool.eq_false_or_eq_true (fcmp .geq .f32 a[k] (some 0)) with e | e <;> rcases Bool.eq_false_or_eq_true (fcmp .leq .f32 a[k] (some c)) with e' | e' <;> simp [e, e']) ⟨_, by
    show impl_areBetween.s0 a (some c) false (a.length : Int) = _
    unfold impl_areBetween.s0
    rw [if_neg (by simp)]⟩
  rcases this with ⟨e, h1, h2⟩ | ⟨h1, k, hk, h2⟩
  · rw [h1]
    have : a.all (okTo c) = true := by
      rw [List.all_eq_true]
      intro x hx
      obtain ⟨k, hk, rfl⟩ := List.getElem_of_mem hx
      have := h2 k hk
      rw [List.getElem?_eq_getElem hk] at this
      simpa using this
    rw [this]; rfl
  · rw [h1]
    have : a.all (okTo c) = false := by
      rw [List.all_eq_false]
      rw [List.getElem?_eq_getElem hk] at h2
      exact ⟨a[k], List.getElem_mem hk, by simpa using h2⟩
    rw [this]; rfl

theorem is_eq (a0 a1 : Int) (a2 : Bool) (a3 a4 : List (Option Nat)) (h3 : a3.length ≤ 1000000000) (h4 : a4.length ≤ 1000000000) : ∃ b, spec_l02Is a0 a1 a2 a3 a4 = some b ∧ impl_ValidSheet a0 a1 a2 a3 a4 = some b := by
  unfold impl_ValidSheet spec_l02Is spec_l02Sides spec_l00In impl_within
  rw [between_eq a3 _ h3, between_eq a4 _ h4]
  simp only [ite_andB, ite_orB, Option.bind_some]
  generalize hs : (decide (a0 ≥ 3) && decide (a0 ≤ 16)) = s0
  generalize ht : (decide (a1 ≥ 3) && decide (a1 ≤ 16)) = s1
  have hgt : decide (IntKind.wrap .i64 (a0 * a1) > 256) = !decide (IntKind.wrap .i64 (a0 * a1) ≤ 256) := by
    rw [← decide_not, decide_eq_decide]; omega
  rw [hgt]
  generalize decide (IntKind.wrap .i64 (a0 * a1) ≤ 256) = s2
  cases s0 with
  | false => exact ⟨false, rfl, rfl⟩
  | true => cases s1 with
    | false => exact ⟨false, rfl, rfl⟩
    | true => cases s2 with
      | false => exact ⟨false, rfl, rfl⟩
      | true =>
        by_cases e3 : (a3.length : Int) = IntKind.wrap .i64 (a0 * a1)
        · by_cases e4 : (a4.length : Int) = IntKind.wrap .i64 (a0 * a1)
          · have e34 : a4.length = a3.length := by omega
            have := loop_all (step := fun (s : (Bool × Int)) => spec_l02Is.s0 a3 a4 s.1 s.2) (n := a3.length) (fun k => !(okTo 1056964608 (a3[k]?.getD none) && okTo 1065353216 (a4[k]?.getD none))) false (fun k hk => by
              dsimp only
              unfold spec_l02Is.s0
              rw [if_pos (by simp; omega), idx_nat, idx_nat, List.getElem?_eq_getElem hk, List.getElem?_eq_getElem (show k < a4.length by omega), wrap_small (by omega) (by omega)]
              simp only [Option.bind_some, Option.getD_some]
              unfold okTo
              rcases Bool.eq_false_or_eq_true (fcmp .geq .f32 a3[k] (some 0)) with e | e
              · rw [gtr_leq ⟨false, 8388608, -24, by decide⟩ e]
                rcases Bool.eq_false_or_eq_true (fcmp .geq .f32 a4[k] (some 0)) with e' | e'
                · rw [gtr_leq ⟨false, 8388608, -23, by decide⟩ e']
                  rcases Bool.eq_false_or_eq_true (fcmp .leq .f32 a3[k] (some 1056964608)) with f | f <;> rcases Bool.eq_false_or_eq_true (fcmp .leq .f32 a4[k] (some 1065353216)) with f' | f' <;> simp [e, e', f, f']
                · rcases Bool.eq_false_or_eq_true (fcmp .leq .f32 a3[k] (some 1056964608)) with f | f <;> simp [e, e', f]
              · simp [e]) ⟨_, by
              show spec_l02Is.s0 a3 a4 false (a3.length : Int) = _
              unfold spec_l02Is.s0
              rw [if_neg (by simp)]⟩
            have key : ∃ b, ((loopF (fun (s : (Bool × Int)) => spec_l02Is.s0 a3 a4 s.1 s.2) (false, 0)).bind fun (y2 : ((Bool × Int × Bool) ⊕ Bool)) => match y2 with | .inl (x5, x6, x7) => some true | .inr r1 => some r1) = some b ∧ b = (a3.all (okTo 1056964608) && a4.all (okTo 1065353216)) := by
              rcases this with ⟨e, h1, h2⟩ | ⟨h1, k, hk, h2⟩
              · rw [h1]
                refine ⟨true, rfl, ?_⟩
                have ha : a3.all (okTo 1056964608) = true := by
                  rw [List.all_eq_true]
                  intro x hx
                  obtain ⟨k, hk, rfl⟩ := List.getElem_of_mem hx
                  have := h2 k hk
                  rw [List.getElem?_eq_getElem hk] at this
                  simp at this
                  exact this.1
                have hb : a4.all (okTo 1065353216) = true := by
                  rw [List.all_eq_true]
                  intro x hx
                  obtain ⟨k, hk, rfl⟩ := List.getElem_of_mem hx
                  have := h2 k (by omega)
                  rw [List.getElem?_eq_getElem hk] at this
                  simp at this
                  exact this.2
                rw [ha, hb]; rfl
              · rw [h1]
                refine ⟨false, rfl, ?_⟩
                rw [List.getElem?_eq_getElem hk, List.getElem?_eq_getElem (show k < a4.length by omega)] at h2
                simp only [Option.getD_some, Bool.not_eq_true', Bool.and_eq_false_iff] at h2
                symm
                rw [Bool.and_eq_false_iff]
                rcases h2 with h2 | h2
                · exact .inl (List.all_eq_false.2 ⟨_, List.getElem_mem hk, by simp [h2]⟩)
                · exact .inr (List.all_eq_false.2 ⟨_, List.getElem_mem (show k < a4.length by omega), by simp [h2]⟩)
            obtain ⟨b, h1, h2⟩ := key
            refine ⟨b, ?_, ?_⟩
            · simp only [e3, e4, Bool.not_true, bne_self_eq_false, Bool.or_self, Bool.and_self, Bool.false_eq_true, if_false]
              exact h1
            · rw [h2]
              simp [e3, e4]
          · exact ⟨false, by simp [e3, e4], by simp [e3, e4]⟩
        · exact ⟨false, by simp [e3], by simp [e3]⟩

end Go.H
