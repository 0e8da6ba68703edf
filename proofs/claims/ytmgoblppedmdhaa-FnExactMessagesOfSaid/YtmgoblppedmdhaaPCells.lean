/- Cells, and loops that call a function with each cell. -/
import Derived.Test.YtmgoblppedmdhaaPNest
set_option linter.unusedVariables false
namespace Go.H
open Go Ieee

theorem in_eq (x a b : Int) : spec_l00In x a b = some (decide (x ≥ a) && decide (x ≤ b)) ∧ impl_within x a b = some (decide (x ≥ a) && decide (x ≤ b)) := by
  unfold spec_l00In impl_within
  simp only [ite_andB, some_bind', and_self]

theorem cell_mod {w x y : Nat} (hx : x < w) : (x + w * y) % w = x := by rw [Nat.add_mul_mod_self_left, Nat.mod_eq_of_lt hx]
theorem cell_div {w x y : Nat} (hx : x < w) : (x + w * y) / w = y := by rw [Nat.add_mul_div_left _ _ (by omega), Nat.div_eq_of_lt hx, Nat.zero_add]

/-- a loop that calls a function with each cell -/
theorem each_fold {C S : Type} {w h : Nat} (b : Bool) (l m : List (Option Nat)) (hw : w ≤ 16) (hh : h ≤ 16)
    {step1 : Int → Int × C → Option ((Int × C) ⊕ (Int × Bool × C))} {step0 : Int × C → Option ((Int × C) ⊕ (Int × Bool × C))} (clo : Int → Int → Int → C → Option C)
    (hs1 : ∀ y x c, step1 y (x, c) = if decide (x < (w : Int)) = true then (impl_Sheet_at w h b l m x y).bind fun i => (clo x y i c).bind fun c' => some (.inl (IntKind.wrap .i64 (x + 1), c')) else some (.inr (x, decide (x < (w : Int)), c)))
    (hs0 : ∀ y c, step0 (y, c) = if decide (y < (h : Int)) = true then (loopF (step1 y) (0, c)).bind fun r => some (.inl (IntKind.wrap .i64 (y + 1), r.2.2)) else some (.inr (y, decide (y < (h : Int)), c)))
    (P : S → C) (f : Nat → S → S) (I : Nat → S → Prop)
    (hc : ∀ x y : Nat, x < w → y < h → ∀ s, I (x + w * y) s → clo x y ((x + w * y : Nat) : Int) (P s) = some (P (f (x + w * y) s)) ∧ I (x + w * y + 1) (f (x + w * y) s))
    (s0 : S) (h0 : I 0 s0) : loopF step0 (0, P s0) = some ((h : Int), false, P (foldN f (w * h) s0)) ∧ I (w * h) (foldN f (w * h) s0) := by
  have J : ∀ y, y < h → ∀ s, I (w * y) s → loopF (step1 y) (0, P s) = some ((w : Int), false, P (foldN (fun x => f (x + w * y)) w s)) ∧ I (w * y + w) (foldN (fun x => f (x + w * y)) w s) := by
    intro y hy s hs
    have := loop_fold (step := step1 y) (fun s k => ((k : Int), P s)) (fun x => f (x + w * y)) (fun k s => I (k + w * y) s) w (fun s => ((w : Int), false, P s)) s (by simpa using hs) (fun k s hk hI => by
      obtain ⟨c1, c2⟩ := hc k y hk hy s hI
      refine ⟨?_, by rw [show k + 1 + w * y = k + w * y + 1 by omega]; exact c2⟩
      rw [hs1, if_pos (by simp; omega), at_eq b l m hw hh hk hy, some_bind', c1, some_bind', one_more (by omega)]) (fun s hI => by
      rw [hs1, if_neg (by simp)]
      simp)
    rw [Nat.add_comm w (w * y)] at this
    exact this
  have B := loop_fold (step := step0) (fun s k => ((k : Int), P s)) (fun y t => foldN (fun x => f (x + w * y)) w t) (fun y s => I (w * y) s) h (fun s => ((h : Int), false, P s)) s0 (by simpa using h0) (fun y s hy hI => by
    obtain ⟨j1, j2⟩ := J y hy s hI
    refine ⟨?_, by rw [Nat.mul_succ]; exact j2⟩
    rw [hs0, if_pos (by simp; omega), j1, some_bind', one_more (by omega)]) (fun s hI => by
    rw [hs0, if_neg (by simp)]
    simp)
  rw [foldN_rows] at B
  exact B
end Go.H
