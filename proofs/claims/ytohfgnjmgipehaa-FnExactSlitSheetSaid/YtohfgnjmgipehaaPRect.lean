/- Rects, depths, and loops that call a function with each cell. -/
import Derived.Test.YtohfgnjmgipehaaGRect
set_option linter.unusedVariables false
namespace Go.H
open Go Ieee

theorem in_eq (x a b : Int) : spec_l00In x a b = some (decide (x ≥ a) && decide (x ≤ b)) ∧ impl_within x a b = some (decide (x ≥ a) && decide (x ≤ b)) := by
  unfold spec_l00In impl_within
  simp only [ite_andB, some_bind', and_self]

theorem cell_mod {w x y : Nat} (hx : x < w) : (x + w * y) % w = x := by rw [Nat.add_mul_mod_self_left, Nat.mod_eq_of_lt hx]
theorem cell_div {w x y : Nat} (hx : x < w) : (x + w * y) / w = y := by rw [Nat.add_mul_div_left _ _ (by omega), Nat.div_eq_of_lt hx, Nat.zero_add]

theorem own_eq (a0 a1 : Int) (a2 : Bool) (a3 a4 : List (Option Nat)) (h3 : a3.length ≤ 1000000000) (h4 : a4.length ≤ 1000000000) : spec_l05Own a0 a1 a2 a3 a4 = some (a0, a1, a2, a3, a4) ∧ impl_copySheet a0 a1 a2 a3 a4 = some (a0, a1, a2, a3, a4) := by
  unfold spec_l05Own impl_copySheet impl_copyOf
  have e3 : ([] : List (Option Nat)).length + a3.length ≤ 1000000000 := by simpa using h3
  have e4 : ([] : List (Option Nat)).length + a4.length ≤ 1000000000 := by simpa using h4
  rw [if_pos e3, if_pos e4, if_pos e3, if_pos e4]
  exact ⟨rfl, rfl⟩

theorem has_eq (a b c d x y : Int) : ∃ v, spec_l05In a b c d x y = some v ∧ impl_Rect_has a b c d x y = some v := by
  unfold spec_l05In impl_Rect_has
  simp only [(in_eq _ _ _).1, (in_eq _ _ _).2, some_bind', ite_andB]
  exact ⟨_, rfl, rfl⟩

theorem share_eq (x : Option Nat) : impl_isShare x = spec_l05Share x (some 1065353216) := rfl
theorem share_some (x y : Option Nat) : spec_l05Share x y = some (fcmp .geq .f32 x (some 0) && fcmp .leq .f32 x y) := by
  unfold spec_l05Share
  simp only [ite_andB, some_bind']

/-- the tests of a rect -/
theorem rect_eq (a0 a1 : Int) (a2 : Bool) (a3 a4 : List (Option Nat)) (r0 r1 r2 r3 : Int) (h3 : a3.length ≤ 1000000000) (h4 : a4.length ≤ 1000000000) :
    ∃ v u, spec_l02Is a0 a1 a2 a3 a4 = some v ∧ impl_ValidSheet a0 a1 a2 a3 a4 = some v ∧ spec_l05Rect a0 a1 a2 a3 a4 r0 r1 r2 r3 = some u ∧ impl_IsRect a0 a1 a2 a3 a4 r0 r1 r2 r3 = some (v && u) := by
  obtain ⟨v, e1, e2⟩ := is_eq a0 a1 a2 a3 a4 h3 h4
  have key : ∃ u, spec_l05Rect a0 a1 a2 a3 a4 r0 r1 r2 r3 = some u ∧ impl_IsRect a0 a1 a2 a3 a4 r0 r1 r2 r3 = some (v && u) := by
    unfold impl_IsRect impl_isValidCell impl_Sheet_isCell spec_l05Rect spec_l02Cell
    rw [e2]
    simp only [(in_eq _ _ _).1, (in_eq _ _ _).2, some_bind', ite_andB]
    exact ⟨_, rfl, by cases v <;> simp [Bool.and_assoc]⟩
  obtain ⟨u, k1, k2⟩ := key
  exact ⟨v, u, e1, e2, k1, k2⟩

theorem min_eq (x y : Int) : spec_l00Min x y = some (imin x y) := by
  unfold spec_l00Min imin
  by_cases h : x < y
  · rw [if_pos (by simpa using h), if_neg (by omega)]
  · rw [if_neg (by simpa using h)]
    by_cases h2 : y < x
    · rw [if_pos h2]
    · rw [if_neg h2, show x = y by omega]

theorem depth_eq {w h x y : Nat} (b : Bool) (l m : List (Option Nat)) (hw : w ≤ 16) (hh : h ≤ 16) (hx : x < w) (hy : y < h) : ∃ d : Int, 0 ≤ d ∧ d ≤ 16 ∧ spec_l05Depth w h b l m ((x + w * y : Nat) : Int) = some d ∧ impl_Sheet_depth w h b l m x y = some d := by
  have hlt := row_lt hx hy
  have hn := area_le hw hh
  unfold spec_l05Depth impl_Sheet_depth
  rw [if_neg (by omega), if_neg (by omega), div_eq hlt hn]
  have e1 : Int.tmod ((x + w * y : Nat) : Int) (w : Int) = (x : Int) := by show (((x + w * y) % w : Nat) : Int) = _; rw [cell_mod hx]
  rw [e1, cell_div hx, min_eq, min_eq, some_bind', some_bind', min_eq, some_bind']
  rw [wrap_small (n := (w : Int) - 1) (by omega) (by omega), wrap_small (n := (h : Int) - 1) (by omega) (by omega), wrap_small (n := (w : Int) - 1 - x) (by omega) (by omega), wrap_small (n := (h : Int) - 1 - y) (by omega) (by omega)]
  refine ⟨imin (imin (x : Int) ((w : Int) - 1 - x)) (imin (y : Int) ((h : Int) - 1 - y)), ?_, ?_, rfl, ?_⟩
  · unfold imin; split <;> split <;> (try split) <;> omega
  · unfold imin; split <;> split <;> (try split) <;> omega
  · congr 1; unfold imin; split <;> split <;> (try split) <;> (try split) <;> (try split) <;> (try split) <;> omega

/-- a loop that calls a function with each cell -/
theorem each_fold {C S : Type} {w h : Nat} (b : Bool) (l m : List (Option Nat)) (hw : w ≤ 16) (hh : h ≤ 16)
    {step1 : Int → Int × C → Option ((Int × C) ⊕ (Int × Bool × C))} {step0 : Int × C → Option ((Int × C) ⊕ (Int × Bool × C))} (clo : Int → Int → Int → C → Option C)
    (hs1 : ∀ y x c, step1 y (x, c) = if decide (x < (w : Int)) = true then (impl_Sheet_at w h b l m x y).bind fun i => (clo x y i c).bind fun c' => some (.inl (IntKind.wrap .i64 (x + 1), c')) else some (.inr (x, decide (x < (w : Int)), c)))
    (hs0 : ∀ y c, step0 (y, c) = if decide (y < (h : Int)) = true then (loopF (step1 y) (0, c)).bind fun r => some (.inl (IntKind.wrap .i64 (y + 1), r.2.2)) else some (.inr (y, decide (y < (h : Int)), c)))
    (P : S → C) (f : Nat → S → S) (I : Nat → S → Prop)
    (hc : ∀ x y : Nat, x < w → y < h → ∀ s, I (x + w * y) s → clo x y ((x + w * y : Nat) : Int) (P s) = some (P (f (x + w * y) s)) ∧ I (x + w * y + 1) (f (x + w * y) s))
    (s0 : S) (h0 : I 0 s0) : loopF step0 (0, P s0) = some ((h : Int), false, P (foldN f (w * h) s0)) ∧ I (w * h) (foldN f (w * h) s0) := by
  have J : ∀ y, y < h → ∀ s, I (w * y) s → loopF (step1 y) (0, P s) = some ((w : Int), false, P (foldN (fun x => f (x + w * y)) w s)) ∧ I (w * y + w) (foldN (fun x => f (x + w * y)) w s) := by
    intro y hy s hs
    have := loop_fold (step := step1 y) (fun s k => ((k : Int), P s)) (fun x => f (x + w * y)) (fun k s => I (k + w * y) s) w (fun s => ((w : Int), false, P s)) s (by simpa using hs) (fun k s hk hI => by
      obtain ⟨c1, c2⟩ := hc k y hk hy s hI
      refine ⟨?_, by rw [show k + 1 + w * y = k + w * y + 1 by omega]; exact c2⟩
      rw [hs1, if_pos (by simp; omega), at_eq b l m hw hh hk hy, some_bind', c1, some_bind', one_more (by omega)]) (fun s hI => by
      rw [hs1, if_neg (by simp)]
      simp)
    rw [Nat.add_comm w (w * y)] at this
    exact this
  have B := loop_fold (step := step0) (fun s k => ((k : Int), P s)) (fun y t => foldN (fun x => f (x + w * y)) w t) (fun y s => I (w * y) s) h (fun s => ((h : Int), false, P s)) s0 (by simpa using h0) (fun y s hy hI => by
    obtain ⟨j1, j2⟩ := J y hy s hI
    refine ⟨?_, by rw [Nat.mul_succ]; exact j2⟩
    rw [hs0, if_pos (by simp; omega), j1, some_bind', one_more (by omega)]) (fun s hI => by
    rw [hs0, if_neg (by simp)]
    simp)
  rw [foldN_rows] at B
  exact B
end Go.H
