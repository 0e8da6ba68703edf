/- The turns of a Rayleigh distance: the plain law. -/
import Derived.Test.YtinpafbadbnhhaaG8
set_option linter.unusedVariables false
namespace Go.H
open Go Ieee

theorem order_flip {k : FloatKind} {x y : Option Nat} (h : ford k x y = none) : fcmp .geq k x y = false := by
  show (ford k x y == some .gt || ford k x y == some .eq) = false
  rw [h]; rfl

theorem laws_FnExactTurnsOfRayleigh_true (a0 : Option Nat) : laws_FnExactTurnsOfRayleigh a0 = some true := by
  have key : ∃ r, spec_TurnsOfRayleigh a0 = some r ∧ impl_TurnsOfRayleigh a0 = some r := by
    unfold spec_TurnsOfRayleigh impl_TurnsOfRayleigh
    simp only [root_eq, turns_eq]
    obtain ⟨x2, h2⟩ := sqrt_some (fop .quo .f32 a0 (some 1082130432))
    obtain ⟨x3, h3⟩ := sqrt_some (fop .sub .f32 (some 1065353216) (fop .quo .f32 a0 (some 1082130432)))
    obtain ⟨x4, h4⟩ := angle_some x2 x3
    simp only [h2, h3, h4, some_bind']
    cases hg : fcmp .geq .f32 a0 (some 0) with
    | false => exact ⟨_, rfl, rfl⟩
    | true =>
      have : (!fcmp .leq .f32 a0 (some 1082130432)) = fcmp .gtr .f32 a0 (some 1082130432) := by
        cases a0 with
        | none => cases hg
        | some b =>
          have : ∃ o, ford .f32 (some b) (some 1082130432) = some o := by
            have hc : single.read 1082130432 = .number false 8388608 (-21) := by decide
            have hb : (single.read b).isNaN = false := by
              have hz : fcmp .geq .f32 (some b) (some 0) = true := hg
              cases hr : single.read b with
              | nan s t =>
                have : ford .f32 (some b) (some 0) = none := by
                  show (single.read b).order _ = none
                  rw [hr]; rfl
                rw [order_flip this] at hz; cases hz
              | number _ _ _ => rfl
              | infinity _ => rfl
            show ∃ o, (single.read b).order (single.read 1082130432) = some o
            rw [hc]
            revert hb
            cases single.read b with
            | nan _ _ => intro hb; cases hb
            | number _ _ _ => intro _; exact ⟨_, rfl⟩
            | infinity _ => intro _; exact ⟨_, rfl⟩
          obtain ⟨o, ho⟩ := this
          show (!(ford .f32 (some b) (some 1082130432) == some .lt || ford .f32 (some b) (some 1082130432) == some .eq)) = (ford .f32 (some b) (some 1082130432) == some .gt)
          rw [ho]
          cases o <;> rfl
      rw [this]
      simp only [Bool.not_true, Bool.false_eq_true, if_false, if_true, some_bind']
      cases fcmp .gtr .f32 a0 (some 1082130432) with
      | true => exact ⟨_, rfl, rfl⟩
      | false => exact ⟨_, rfl, rfl⟩
  obtain ⟨r, h1, h2⟩ := key
  unfold laws_FnExactTurnsOfRayleigh
  rw [h1, h2]
  simp only [some_bind', same_self _ (Cl.wid _), Bool.not_true, Bool.false_eq_true, if_false, bne_self_eq_false]
end Go.H
