/- The turns of a mode: the plain law. -/
import Derived.Test.YtinpafbadbnhhaaG23
set_option linter.unusedVariables false
namespace Go.H
open Go Ieee

theorem ite_and' (b c : Bool) : (if b = true then some c else some false) = some (b && c) := by cases b <;> rfl
theorem ite_or' (b c : Bool) : (if b = true then some true else some c) = some (b || c) := by cases b <;> rfl

/-- the frequency of a swing: both texts' steps, and that they end -/
theorem swing_eq (x y c : Option Nat) : ∃ r, impl_turnsBy x y c = some r ∧ ((spec_l01Sine x).bind fun a => (spec_l01Sine y).bind fun b => spec_l08Swing a b c) = some r := by
  obtain ⟨a, ha⟩ := sine_some x
  obtain ⟨b, hb⟩ := sine_some y
  unfold impl_turnsBy spec_l08Swing
  rw [sine_eq, sine_eq, ha, hb]
  simp only [some_bind', root_eq, turns_eq]
  obtain ⟨p, hp⟩ := sqrt_some (fop .mul .f32 (fop .mul .f32 (some 1056964608) c) (fop .add .f32 (fop .mul .f32 a a) (fop .mul .f32 b b)))
  obtain ⟨q, hq⟩ := sqrt_some (fop .sub .f32 (some 1065353216) (fop .mul .f32 (fop .mul .f32 (some 1056964608) c) (fop .add .f32 (fop .mul .f32 a a) (fop .mul .f32 b b))))
  obtain ⟨r, hr⟩ := angle_some p q
  simp only [hp, hq, hr, some_bind']
  exact ⟨_, rfl, rfl⟩

theorem laws_FnExactModeTurns_true (a0 a1 a2 a3 : Int) (a4 : Option Nat) : laws_FnExactModeTurns a0 a1 a2 a3 a4 = some true := by
  have key : ∃ r, spec_ModeTurns a0 a1 a2 a3 a4 = some r ∧ impl_ModeTurns a0 a1 a2 a3 a4 = some r := by
    unfold spec_ModeTurns impl_ModeTurns spec_l08Side spec_l08Order spec_l08Speed spec_l00In impl_areSides impl_isOrder impl_within
    simp only [ite_and', ite_or', some_bind']
    have hb : ∀ s0 s1 o2 o3 g l : Bool, (!s0 || (!s1 || (!(o2 && o3) || !(g && l)))) = (!(s0 && (s1 && (g && l))) || (!o2 || !o3)) := by decide
    rw [hb]
    split
    · exact ⟨_, rfl, rfl⟩
    · obtain ⟨r, h1, h2⟩ := swing_eq (fop .quo .f32 (fofi .f32 a2) (fofi .f32 (IntKind.wrap .i64 (4 * (IntKind.wrap .i64 (a0 - 1)))))) (fop .quo .f32 (fofi .f32 a3) (fofi .f32 (IntKind.wrap .i64 (4 * (IntKind.wrap .i64 (a1 - 1)))))) a4
      refine ⟨(r, true), ?_, ?_⟩
      · unfold spec_l08Turns spec_l08Share
        simp only [bind_id', h2, some_bind']
      · unfold impl_modeTurns impl_quotient
        simp only [some_bind', h1]
  obtain ⟨r, h1, h2⟩ := key
  unfold laws_FnExactModeTurns
  rw [h1, h2]
  simp only [some_bind', same_self _ (Cl.wid _), Bool.not_true, Bool.false_eq_true, if_false, bne_self_eq_false]
end Go.H
