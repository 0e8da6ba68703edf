/- The turns of a travelling mode: the plain law. -/
import Derived.Test.YtinpafbadbnhhaaP23
set_option linter.unusedVariables false
namespace Go.H
open Go Ieee

theorem laws_FnExactTravelTurns_true (a0 a1 a2 a3 : Int) (a4 : Option Nat) : laws_FnExactTravelTurns a0 a1 a2 a3 a4 = some true := by
  have key : ∃ r, spec_TravelTurns a0 a1 a2 a3 a4 = some r ∧ impl_TravelTurns a0 a1 a2 a3 a4 = some r := by
    unfold spec_TravelTurns impl_TravelTurns spec_l08Side spec_l08Travels spec_l08Speed spec_l00In impl_areSides impl_areOrders impl_within
    simp only [ite_and', ite_or', some_bind']
    have hb : ∀ s0 s1 o g l : Bool, (!s0 || (!s1 || (!o || !(g && l)))) = (!(s0 && (s1 && (g && l))) || !o) := by decide
    rw [hb]
    split
    · exact ⟨_, rfl, rfl⟩
    · obtain ⟨r, h1, h2⟩ := swing_eq (fop .quo .f32 (fofi .f32 a2) (fofi .f32 (IntKind.wrap .i64 (2 * a0)))) (fop .quo .f32 (fofi .f32 a3) (fofi .f32 (IntKind.wrap .i64 (2 * a1)))) a4
      refine ⟨(r, true), ?_, ?_⟩
      · unfold spec_l08Travel spec_l08Share
        simp only [bind_id', h2, some_bind']
      · unfold impl_travelTurns impl_quotient
        simp only [some_bind', h1]
  obtain ⟨r, h1, h2⟩ := key
  unfold laws_FnExactTravelTurns
  rw [h1, h2]
  simp only [some_bind', same_self _ (Cl.wid _), Bool.not_true, Bool.false_eq_true, if_false, bne_self_eq_false]
end Go.H
