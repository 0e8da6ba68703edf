/- The cells without speed: the plain law. -/
import Derived.Test.YtohfgnjmgipehaaGStillCells
import Derived.Test.YtohfgnjmgipehaaPGrid
set_option linter.unusedVariables false
namespace Go.H
open Go Ieee

theorem still_eq (a0 a1 : Int) (a2 : Bool) (a3 a4 : List (Option Nat)) (h3 : a3.length ≤ 1000000000) (h4 : a4.length ≤ 1000000000) : ∃ r, r.1.length ≤ 256 ∧ spec_StillCells a0 a1 a2 a3 a4 = some r ∧ impl_StillCells a0 a1 a2 a3 a4 = some r := by
  unfold spec_StillCells impl_StillCells
  obtain ⟨v, e1, e2⟩ := is_eq a0 a1 a2 a3 a4 h3 h4
  rw [e1, e2]
  cases v with
  | false => exact ⟨([], false), by simp, rfl, rfl⟩
  | true =>
    obtain ⟨w, h, rfl, rfl, w1, w2, h1, h2, l3, l4⟩ := valid_has e2
    have hn := area_le w2 h2
    let f := fun (k : Nat) (s : List Int) => if fcmp .eql .f32 (a3[k]?.getD none) (some 0) = true then s ++ [(k : Int)] else s
    have hf : ∀ k s, s.length ≤ k → (f k s).length ≤ k + 1 := by
      intro k s hk
      simp only [f]
      split
      · simp; omega
      · omega
    have A := loop_fold (step := fun (s : ((List (Int)) × Int)) => spec_StillCells.s0 a3 s.1 s.2) (fun s k => (s, (k : Int))) f (fun k s => s.length ≤ k) (w * h) (fun s => (((w * h : Nat) : Int), false, s)) [] (by simp) (fun k s hk hI => by
      refine ⟨?_, hf k s hI⟩
      show spec_StillCells.s0 a3 s (k : Int) = _
      unfold spec_StillCells.s0
      rw [if_pos (by simp; omega), idx_nat, List.getElem?_eq_getElem (show k < a3.length by omega), some_bind', if_pos (show s.length + [(k : Int)].length ≤ 1000000000 by simp; omega), ite_some, some_bind', one_more (by omega)]
      simp only [f, List.getElem?_eq_getElem (show k < a3.length by omega), Option.getD_some]) (fun s hI => by
      show spec_StillCells.s0 a3 s ((w * h : Nat) : Int) = _
      unfold spec_StillCells.s0
      rw [if_neg (by simp; omega)]
      simp; omega)
    have J : ∀ y, y < h → ∀ s : List Int, s.length ≤ w * y → loopF (fun (s : ((List (Int)) × Int)) => impl_cellsBy__impl_StillCells_1.s1 w h a2 a3 a4 w h a2 a3 a4 y s.1 s.2) (s, 0) = some ((w : Int), false, foldN (fun x => f (x + w * y)) w s) ∧ (foldN (fun x => f (x + w * y)) w s).length ≤ w + w * y := by
      intro y hy s hs
      exact loop_fold (step := fun (s : ((List (Int)) × Int)) => impl_cellsBy__impl_StillCells_1.s1 w h a2 a3 a4 w h a2 a3 a4 y s.1 s.2) (fun s k => (s, (k : Int))) (fun x => f (x + w * y)) (fun k s => s.length ≤ k + w * y) w (fun s => ((w : Int), false, s)) s (by simpa using hs) (fun k s hk hI => by
        have hlt := row_lt hk hy
        refine ⟨?_, by have := hf (k + w * y) s hI; omega⟩
        show impl_cellsBy__impl_StillCells_1.s1 w h a2 a3 a4 w h a2 a3 a4 y s (k : Int) = _
        unfold impl_cellsBy__impl_StillCells_1.s1 impl_StillCells_1
        rw [if_pos (by simp; omega), at_eq a2 a3 a4 w2 h2 hk hy, some_bind', idx_nat, List.getElem?_eq_getElem (show k + w * y < a3.length by omega), some_bind', some_bind', some_bind', if_pos (show s.length + [((k + w * y : Nat) : Int)].length ≤ 1000000000 by simp; omega), ite_some, some_bind', one_more (by omega)]
        simp only [f, List.getElem?_eq_getElem (show k + w * y < a3.length by omega), Option.getD_some]) (fun s hI => by
        show impl_cellsBy__impl_StillCells_1.s1 w h a2 a3 a4 w h a2 a3 a4 y s (w : Int) = _
        unfold impl_cellsBy__impl_StillCells_1.s1
        rw [if_neg (by simp)]
        simp)
    have B := loop_fold (step := fun (s : ((List (Int)) × Int)) => impl_cellsBy__impl_StillCells_1.s0 w h a2 a3 a4 w h a2 a3 a4 s.1 s.2) (fun s k => (s, (k : Int))) (fun y t => foldN (fun x => f (x + w * y)) w t) (fun y s => s.length ≤ w * y) h (fun s => ((h : Int), false, s)) [] (by simp) (fun y s hy hI => by
      obtain ⟨j1, j2⟩ := J y hy s hI
      refine ⟨?_, by rw [Nat.mul_succ]; omega⟩
      show impl_cellsBy__impl_StillCells_1.s0 w h a2 a3 a4 w h a2 a3 a4 s (y : Int) = _
      unfold impl_cellsBy__impl_StillCells_1.s0
      rw [if_pos (by simp; omega), j1, some_bind']
      simp only
      rw [one_more (by omega)]) (fun s hI => by
      show impl_cellsBy__impl_StillCells_1.s0 w h a2 a3 a4 w h a2 a3 a4 s (h : Int) = _
      unfold impl_cellsBy__impl_StillCells_1.s0
      rw [if_neg (by simp)]
      simp)
    rw [foldN_rows] at B
    refine ⟨(foldN f (w * h) [], true), ?_, ?_, ?_⟩
    · have := A.2; simp only; omega
    · have := A.1; simp only [Int.ofNat_zero, Int.natCast_zero] at this; simp only [some_bind', Bool.not_true, Bool.false_eq_true, if_false, this]
    · unfold impl_cellsBy__impl_StillCells_1
      have := B.1; simp only [Int.ofNat_zero, Int.natCast_zero] at this; simp only [some_bind', Bool.not_true, Bool.false_eq_true, if_false, this]

theorem laws_FnExactStillCells_true (a0 a1 : Int) (a2 : Bool) (a3 a4 : List (Option Nat)) (h3 : a3.length ≤ 9223372036854775807) (h4 : a4.length ≤ 9223372036854775807) : laws_FnExactStillCells a0 a1 a2 a3 a4 = some true := by
  unfold laws_FnExactStillCells
  rcases szSheet_cases a0 a1 a2 a3 a4 1048576 (by omega) (by omega) h3 h4 with h | ⟨h, hl⟩
  · rw [h]; rfl
  · rw [h, some_bind', if_neg (by simp; omega)]
    obtain ⟨⟨l, r⟩, hlen, e1, e2⟩ := still_eq a0 a1 a2 a3 a4 (by omega) (by omega)
    simp only at hlen
    simp only [toSheet_eq a0 a1 a2 a3 a4 (by omega) (by omega), e1, e2, some_bind', eqInt64S_self l (by omega), eqSheet_self a0 a1 a2 a3 a4 (by omega) (by omega), bne_self_eq_false, Bool.not_true, Bool.false_eq_true, if_false, markSheet_eq a0 a1 a2 a3 a4 1 (by omega) (by omega), markI_eq l 1 (by omega) (by omega), heldI_eq 1 l.length (by omega) (by omega), not_neg (show 0 ≤ 1 + (a3.length : Int) + (a4.length : Int) by omega), not_neg (show 0 ≤ 1 + (l.length : Int) by omega)]
end Go.H
