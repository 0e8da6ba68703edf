/- Marks and copies of sheets. -/
import Derived.Test.YtjlnfficehomhaaDoorPMark
import Derived.Test.YtjlnfficehomhaaDoorPFold
set_option linter.unusedVariables false
namespace Go.H
open Go Ieee

theorem eqInt64S_self (a : List Int) (h : a.length ≤ 1000000000) : laws_eqInt64S a a = some true := by
  unfold laws_eqInt64S
  rw [if_neg (by simp)]
  obtain ⟨st, _⟩ := loop_fold (step := fun (s : (Bool × Int)) => laws_eqInt64S.s0 a a s.1 s.2) (fun (s : Unit) k => (false, (k : Int))) (fun _ s => s) (fun _ _ => True) a.length (fun _ => .inl (false, (a.length : Int), decide ((a.length : Int) < (a.length : Int)))) () trivial (fun k s hk _ => by
    refine ⟨?_, trivial⟩
    show laws_eqInt64S.s0 a a false (k : Int) = _
    unfold laws_eqInt64S.s0
    rw [if_pos (by simp; omega), idx_nat, List.getElem?_eq_getElem hk]
    simp only [some_bind', bne_self_eq_false, Bool.false_eq_true, if_false]
    rw [one_more (by omega)]) (fun s _ => by
    show laws_eqInt64S.s0 a a false (a.length : Int) = _
    unfold laws_eqInt64S.s0
    rw [if_neg (by simp)])
  have e0 : ((0 : Nat) : Int) = 0 := rfl
  rw [e0] at st
  rw [st]
  rfl

theorem markSheet_eq (a0 a1 : Int) (a2 : Bool) (a3 a4 : List (Option Nat)) (n : Int) (h0 : 0 ≤ n) (h1 : n + a3.length + a4.length ≤ 1000000000000) : laws_markSheet a0 a1 a2 a3 a4 n = some (n + a3.length + a4.length, marks (fun i => fofi .f32 i) n a3.length, marks (fun i => fofi .f32 i) (n + a3.length) a4.length) := by
  unfold laws_markSheet
  rw [markF_eq a3 n h0 (by omega), some_bind', markF_eq a4 _ (by simp only; omega) (by simp only; omega), some_bind']
end Go.H
