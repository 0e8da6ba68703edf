/- The strips of workers lie inside the sheet. -/
import Derived.Test.YtjlnfficehomhaaGreatDoorGMs
import Derived.Test.YtjlnfficehomhaaGreatDoorPFold
import Derived.Test.YtjlnfficehomhaaGreatDoorPSheet
set_option linter.unusedVariables false
namespace Go.H
open Go Ieee

/-- how many rows a worker has -/
def rowsOf (h w : Int) (k : Nat) : Int := if decide ((k : Int) < Int.tmod h w) = true then IntKind.wrap .i64 (IntKind.wrap .i64 (Int.tdiv h w) + 1) else IntKind.wrap .i64 (Int.tdiv h w)

/-- one worker's strip -/
def stripStep (h : Int) (n : Nat) : Nat → List (Int × Int) × Int → List (Int × Int) × Int := fun k s => (if decide (rowsOf h n k > 0) = true then s.1 ++ [(s.2, rowsOf h n k)] else s.1, IntKind.wrap .i64 (s.2 + rowsOf h n k))
def stripsL (h : Int) (n : Nat) : List (Int × Int) := (foldN (stripStep h n) n ([], 0)).1
/-- a strip inside the sheet -/
def stripGood (h : Nat) (p : Int × Int) : Bool := decide (0 ≤ p.1) && decide (p.1 < h) && decide (1 ≤ p.2) && decide (p.2 ≤ h - p.1)

theorem strips_good : ∀ h, h < 17 → ∀ n, n < 9 → ((stripsL (h : Nat) n).all (stripGood h) && decide ((stripsL (h : Nat) n).length ≤ 8)) = true := by decide +kernel

theorem strips_is (a0 h : Int) (a2 : Bool) (a3 a4 : List (Option Nat)) (n : Nat) (h1 : 1 ≤ n) (h2 : n ≤ 8) : impl_stripsOf a0 h a2 a3 a4 n = some (stripsL h n) := by
  unfold impl_stripsOf
  have A := loop_fold (step := fun (s : ((List ((Int × Int))) × Int × Int)) => impl_stripsOf.s0 h n s.1 s.2.1 s.2.2) (fun (s : List (Int × Int) × Int) k => (s.1, s.2, (k : Int)))
    (stripStep h n) (fun k s => s.1.length ≤ k) n (fun s => (s.2, (n : Int), false, s.1)) ([], 0) (by simp) (fun k s hk hI => by
      obtain ⟨l, t⟩ := s
      simp only at hI
      constructor
      · show impl_stripsOf.s0 h n l t (k : Int) = _
        unfold impl_stripsOf.s0
        rw [if_pos (by simp; omega), if_neg (by omega), if_neg (by omega), ite_some, some_bind']
        have hr : (if decide ((k : Int) < Int.tmod h n) = true then IntKind.wrap .i64 (IntKind.wrap .i64 (Int.tdiv h n) + 1) else IntKind.wrap .i64 (Int.tdiv h n)) = rowsOf h n k := rfl
        rw [hr]
        rw [if_pos (show l.length + [(t, rowsOf h n k)].length ≤ 1000000000 by simp; omega), ite_some, some_bind', one_more (by omega)]
        rfl
      · simp only [stripStep]
        split
        · simp; omega
        · omega) (fun s hI => by
      obtain ⟨l, t⟩ := s
      show impl_stripsOf.s0 h n l t (n : Int) = _
      unfold impl_stripsOf.s0
      rw [if_neg (by simp)]
      simp)
  obtain ⟨A1, A2⟩ := A
  simp only [Int.ofNat_zero] at A1
  rw [A1]
  rfl

theorem good_has {h : Nat} {p : Int × Int} (g : stripGood h p = true) : ∃ fr ct : Nat, p = ((fr : Int), (ct : Int)) ∧ fr < h ∧ 1 ≤ ct ∧ ct ≤ h - fr := by
  obtain ⟨x, y⟩ := p
  unfold stripGood at g
  simp only [Bool.and_eq_true, decide_eq_true_eq] at g
  obtain ⟨fr, rfl⟩ := Int.eq_ofNat_of_zero_le (show 0 ≤ x by omega)
  obtain ⟨ct, rfl⟩ := Int.eq_ofNat_of_zero_le (show 0 ≤ y by omega)
  exact ⟨fr, ct, rfl, by omega, by omega, by omega⟩

end Go.H
