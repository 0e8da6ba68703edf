/- Coordinates one step outside. -/
import Derived.Test.YtohfgnjmgipehaaPCells
set_option linter.unusedVariables false
namespace Go.H
open Go Ieee

/-- a coordinate that may lie one step outside, brought inside -/
def cyc (w : Nat) (u : Int) : Nat := if u = -1 then w - 1 else if u = w then 0 else u.toNat

theorem cyc_eq {w : Nat} {u : Int} (hw0 : 1 ≤ w) (hw : w ≤ 16) (hu : -1 ≤ u ∧ u ≤ w) : Int.tmod (IntKind.wrap .i64 (u + (w : Int))) (w : Int) = ((cyc w u : Nat) : Int) ∧ cyc w u < w := by
  rw [wrap_small (by omega) (by omega)]
  unfold cyc
  by_cases h1 : u = -1
  · subst h1
    rw [if_pos rfl, show (-1 : Int) + (w : Int) = ((w - 1 : Nat) : Int) by omega]
    refine ⟨?_, by omega⟩
    show (((w - 1) % w : Nat) : Int) = _
    rw [Nat.mod_eq_of_lt (by omega)]
  · rw [if_neg h1]
    by_cases h2 : u = w
    · subst h2
      rw [if_pos rfl, show (w : Int) + (w : Int) = ((w + w : Nat) : Int) by omega]
      refine ⟨?_, by omega⟩
      show (((w + w) % w : Nat) : Int) = _
      simp
    · rw [if_neg h2]
      obtain ⟨k, rfl⟩ := Int.eq_ofNat_of_zero_le (show 0 ≤ u by omega)
      rw [show (k : Int) + (w : Int) = ((k + w : Nat) : Int) by omega]
      have hk : k < w := by omega
      refine ⟨?_, by simpa using hk⟩
      show (((k + w) % w : Nat) : Int) = _
      rw [Nat.add_mod_right, Nat.mod_eq_of_lt hk]
      simp

theorem at_cyc {w h : Nat} {u v : Int} (b : Bool) (l m : List (Option Nat)) (w0 : 1 ≤ w) (hw : w ≤ 16) (h0 : 1 ≤ h) (hh : h ≤ 16) (hu : -1 ≤ u ∧ u ≤ w) (hv : -1 ≤ v ∧ v ≤ h) : impl_Sheet_at w h b l m u v = some ((cyc w u + w * cyc h v : Nat) : Int) ∧ cyc w u + w * cyc h v < w * h := by
  obtain ⟨a1, a2⟩ := cyc_eq w0 hw hu
  obtain ⟨b1, b2⟩ := cyc_eq h0 hh hv
  refine ⟨?_, row_lt a2 b2⟩
  unfold impl_Sheet_at
  rw [if_neg (by omega), if_neg (by omega), a1, b1, place_eq hw hh a2 b2]

theorem cyc_self {w c : Nat} (hc : c < w) : cyc w ((c : Int) + 0) = c := by
  unfold cyc; rw [if_neg (by omega), if_neg (by omega)]; omega
theorem cyc_up {w c : Nat} (hc : c < w) : cyc w ((c : Int) + 1) = if c + 1 = w then 0 else c + 1 := by
  unfold cyc; rw [if_neg (by omega)]; split <;> split <;> omega
theorem cyc_dn {w c : Nat} (hc : c < w) : cyc w ((c : Int) + -1) = if c = 0 then w - 1 else c - 1 := by
  unfold cyc; split <;> split <;> (try split) <;> omega

end Go.H
