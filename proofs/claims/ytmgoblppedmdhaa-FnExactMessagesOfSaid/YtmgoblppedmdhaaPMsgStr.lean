/- The strips of workers: the plain law. -/
import Derived.Test.YtmgoblppedmdhaaGMsg
import Derived.Test.YtmgoblppedmdhaaPFold
import Derived.Test.YtmgoblppedmdhaaPSheet
set_option linter.unusedVariables false
namespace Go.H
open Go Ieee

/-- how many rows a worker has -/
def rowsOf (h w : Int) (k : Nat) : Int := if decide ((k : Int) < Int.tmod h w) = true then IntKind.wrap .i64 (IntKind.wrap .i64 (Int.tdiv h w) + 1) else IntKind.wrap .i64 (Int.tdiv h w)

theorem strips_some (h w : Int) (h1 : 1 ≤ w) (h2 : w ≤ 8) : ∃ l, l.length ≤ 8 ∧ spec_l07Strips h w = some l := by
  obtain ⟨n, rfl⟩ := Int.eq_ofNat_of_zero_le (show 0 ≤ w by omega)
  unfold spec_l07Strips
  have A := loop_fold (step := fun (s : ((List ((Int × Int))) × Int × Int)) => spec_l07Strips.s0 h n s.1 s.2.1 s.2.2) (fun (s : List (Int × Int) × Int) k => (s.1, s.2, (k : Int)))
    (fun k s => (if decide (rowsOf h n k > 0) = true then s.1 ++ [(s.2, rowsOf h n k)] else s.1, IntKind.wrap .i64 (s.2 + rowsOf h n k))) (fun k s => s.1.length ≤ k) n (fun s => (s.2, (n : Int), false, s.1)) ([], 0) (by simp) (fun k s hk hI => by
      obtain ⟨l, t⟩ := s
      simp only at hI
      constructor
      · show spec_l07Strips.s0 h n l t (k : Int) = _
        unfold spec_l07Strips.s0
        rw [if_pos (by simp; omega), if_neg (by omega), if_neg (by omega), ite_some, some_bind']
        have hr : (if decide ((k : Int) < Int.tmod h n) = true then IntKind.wrap .i64 (IntKind.wrap .i64 (Int.tdiv h n) + 1) else IntKind.wrap .i64 (Int.tdiv h n)) = rowsOf h n k := rfl
        rw [hr]
        rw [if_pos (show l.length + [(t, rowsOf h n k)].length ≤ 1000000000 by simp; omega), ite_some, some_bind', one_more (by omega)]
      · simp only
        split
        · simp; omega
        · omega) (fun s hI => by
      obtain ⟨l, t⟩ := s
      show spec_l07Strips.s0 h n l t (n : Int) = _
      unfold spec_l07Strips.s0
      rw [if_neg (by simp)]
      simp)
  obtain ⟨A1, A2⟩ := A
  simp only [Int.ofNat_zero] at A1
  rw [A1]
  exact ⟨_, by omega, rfl⟩

theorem strips_msg (a0 a1 : Int) (a2 : Bool) (a3 a4 : List (Option Nat)) (p : Int) (h3 : a3.length ≤ 1000000000) (h4 : a4.length ≤ 1000000000) : ∃ c, (((spec_l02Is a0 a1 a2 a3 a4).bind fun (x2 : Bool) => (if (!x2) = true then some true else ((spec_l00In p 1 8).bind fun (x3 : Bool) => some (!x3)))) : Option Bool) = some c ∧
    (c = true → impl_StripsOf a0 a1 a2 a3 a4 p = some ([], false)) ∧ (c = false → ∃ l, l.length ≤ 8 ∧ spec_l07Strips a1 p = some l ∧ impl_StripsOf a0 a1 a2 a3 a4 p = some (l, true) ∧ impl_ValidSheet a0 a1 a2 a3 a4 = some true ∧ 1 ≤ p ∧ p ≤ 8) := by
  unfold impl_StripsOf impl_areWorkers spec_l00In impl_within
  obtain ⟨v, e1, e2⟩ := is_eq a0 a1 a2 a3 a4 h3 h4
  rw [e1, e2]
  simp only [ite_andB, some_bind', ite_orB]
  generalize hc : (!v || !(decide (p ≥ 1) && decide (p ≤ 8))) = c
  refine ⟨c, rfl, fun h => by subst h; rfl, fun h => ?_⟩
  subst h
  simp only [Bool.or_eq_false_iff, Bool.not_eq_false', Bool.and_eq_true, decide_eq_true_eq] at hc
  obtain ⟨l, hl, h1⟩ := strips_some a1 p hc.2.1 hc.2.2
  have h2 : impl_stripsOf a0 a1 a2 a3 a4 p = some l := h1
  refine ⟨l, hl, h1, ?_, by rw [hc.1], hc.2.1, hc.2.2⟩
  rw [h2]
  rfl

theorem halo_el (a0_0 a0_1 : Int) (a0_2 : Bool) (a0_3 a0_4 : List (Option Nat)) (a1 : Int × Int) : spec_l07Halo__el a0_0 a0_1 a0_2 a0_3 a0_4 a1 = spec_l07Halo a0_0 a0_1 a0_2 a0_3 a0_4 a1.1 a1.2 := rfl
end Go.H
