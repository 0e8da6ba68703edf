/- Losses that grow towards the border: the plain law. -/
import Derived.Test.YtohfgnjmgipehaaGGradeLosses
set_option linter.unusedVariables false
namespace Go.H
open Go Ieee

theorem depth_at {w h i : Nat} (b : Bool) (l m : List (Option Nat)) (hw0 : 0 < w) (hw : w ≤ 16) (hh : h ≤ 16) (hi : i < w * h) : ∃ d : Int, 0 ≤ d ∧ d ≤ 16 ∧ spec_l05Depth w h b l m (i : Int) = some d ∧ impl_Sheet_depth w h b l m ((i % w : Nat) : Int) ((i / w : Nat) : Int) = some d := by
  have := depth_eq b l m hw hh (Nat.mod_lt i hw0) (Nat.div_lt_of_lt_mul hi)
  rw [Nat.mod_add_div i w] at this
  exact this

theorem grade_eq (a0 a1 : Int) (a2 : Bool) (a3 a4 : List (Option Nat)) (p : Int) (q : Option Nat) (h3 : a3.length ≤ 1000000000) (h4 : a4.length ≤ 1000000000) : ∃ r : Int × Int × Bool × List (Option Nat) × List (Option Nat) × Bool, r.2.2.2.1.length ≤ 256 ∧ r.2.2.2.2.1.length ≤ 256 ∧ spec_GradeLosses a0 a1 a2 a3 a4 p q = some r ∧ impl_GradeLosses a0 a1 a2 a3 a4 p q = some r := by
  unfold spec_GradeLosses impl_GradeLosses impl_isWidth
  obtain ⟨v, e1, e2⟩ := is_eq a0 a1 a2 a3 a4 h3 h4
  rw [e1, e2]
  simp only [(in_eq _ _ _).1, (in_eq _ _ _).2, some_bind', ite_orB, share_eq, share_some]
  cases v with
  | false => exact ⟨(0, 0, false, [], [], false), by simp, by simp, by simp, by simp⟩
  | true =>
    obtain ⟨w, h, rfl, rfl, w1, w2, k1, k2, l3, l4⟩ := valid_has e2
    have hn := area_le w2 k2
    simp only [Bool.not_true, Bool.false_or]
    generalize (!(decide (p ≥ 1) && decide (p ≤ 16)) || !(fcmp .geq .f32 q (some 0) && fcmp .leq .f32 q (some 1065353216))) = c
    cases c with
    | true => exact ⟨(0, 0, false, [], [], false), by simp, by simp, rfl, rfl⟩
    | false =>
      simp only [Bool.false_eq_true, if_false, (own_eq w h a2 a3 a4 h3 h4).1, (own_eq w h a2 a3 a4 h3 h4).2, some_bind']
      let g := fun (d : Int) (x : Option Nat) => if fcmp .gtr .f32 (fop .add .f32 x (fop .mul .f32 q (fop .mul .f32 (fop .quo .f32 (fofi .f32 (IntKind.wrap .i64 (p - d))) (fofi .f32 p)) (fop .quo .f32 (fofi .f32 (IntKind.wrap .i64 (p - d))) (fofi .f32 p))))) (some 1065353216) = true then some 1065353216 else fop .add .f32 x (fop .mul .f32 q (fop .mul .f32 (fop .quo .f32 (fofi .f32 (IntKind.wrap .i64 (p - d))) (fofi .f32 p)) (fop .quo .f32 (fofi .f32 (IntKind.wrap .i64 (p - d))) (fofi .f32 p))))
      let dep := fun (i : Nat) => (spec_l05Depth w h a2 a3 a4 (i : Int)).getD 0
      let f := fun (i : Nat) (s : List (Option Nat)) => if decide (dep i ≥ p) = true then s else s.set i (g (dep i) (s[i]?.getD none))
      have hf : ∀ i s, s.length = w * h → (f i s).length = w * h := by
        intro i s hs
        simp only [f]
        split <;> simp [hs]
      have A := loop_fold (step := fun (s : (Int × (List (Option Nat)))) => spec_GradeLosses.s0 w h a2 a3 a4 p q ((w : Int), (h : Int), a2, a3, a4) s.1 s.2) (fun s k => ((k : Int), s)) f (fun _ s => s.length = w * h) (w * h) (fun s => (((w * h : Nat) : Int), false, s)) a4 l4 (fun k s hk hI => by
        refine ⟨?_, hf k s hI⟩
        show spec_GradeLosses.s0 w h a2 a3 a4 p q ((w : Int), (h : Int), a2, a3, a4) (k : Int) s = _
        obtain ⟨d, _, _, d1, _⟩ := depth_at a2 a3 a4 (show 0 < w by omega) w2 k2 hk
        have hd : dep k = d := by simp only [dep, d1, Option.getD_some]
        have hks : k < s.length := by omega
        unfold spec_GradeLosses.s0
        rw [if_pos (by simp [l4]; omega), d1, some_bind']
        simp only [f, hd]
        by_cases hc : decide (d ≥ p) = true
        · rw [if_pos hc, if_pos hc, some_bind', one_more (by omega)]
        · rw [if_neg hc, if_neg hc, idx_nat, List.getElem?_eq_getElem hks, some_bind', ite_some, some_bind', some_bind', setF_nat hks, some_bind', some_bind', one_more (by omega)]
          rfl) (fun s hI => by
        show spec_GradeLosses.s0 w h a2 a3 a4 p q ((w : Int), (h : Int), a2, a3, a4) ((w * h : Nat) : Int) s = _
        unfold spec_GradeLosses.s0
        rw [if_neg (by simp [l4])]
        simp [l4])
      have B := each_fold (C := Int × Int × Bool × Int × Int × Int × Bool × (List (Option Nat)) × (List (Option Nat)) × (Option Nat)) a2 a3 a4 w2 k2
        (step1 := fun y (s : (Int × Int × Int × Bool × Int × Int × Int × Bool × (List (Option Nat)) × (List (Option Nat)) × (Option Nat))) => impl_Sheet_each__impl_GradeLosses_1.s1 w h a2 a3 a4 a3 a4 y s.1 s.2.1 s.2.2.1 s.2.2.2.1 s.2.2.2.2.1 s.2.2.2.2.2.1 s.2.2.2.2.2.2.1 s.2.2.2.2.2.2.2.1 s.2.2.2.2.2.2.2.2.1 s.2.2.2.2.2.2.2.2.2.1 s.2.2.2.2.2.2.2.2.2.2)
        (step0 := fun (s : (Int × Int × Int × Bool × Int × Int × Int × Bool × (List (Option Nat)) × (List (Option Nat)) × (Option Nat))) => impl_Sheet_each__impl_GradeLosses_1.s0 w h a2 a3 a4 a3 a4 s.1 s.2.1 s.2.2.1 s.2.2.2.1 s.2.2.2.2.1 s.2.2.2.2.2.1 s.2.2.2.2.2.2.1 s.2.2.2.2.2.2.2.1 s.2.2.2.2.2.2.2.2.1 s.2.2.2.2.2.2.2.2.2.1 s.2.2.2.2.2.2.2.2.2.2)
        (fun x y i c => impl_GradeLosses_1_2 x y i c.1 c.2.1 c.2.2.1 a3 a4 c.2.2.2.1 c.2.2.2.2.1 c.2.2.2.2.2.1 c.2.2.2.2.2.2.1 c.2.2.2.2.2.2.2.1 c.2.2.2.2.2.2.2.2.1 c.2.2.2.2.2.2.2.2.2) (fun _ _ _ => rfl) (fun _ _ => rfl)
        (fun s => ((w : Int), (h : Int), a2, p, (w : Int), (h : Int), a2, a3, s, q)) f (fun _ s => s.length = w * h) (fun x y hx hy s hI => by
          refine ⟨?_, hf _ s hI⟩
          have hlt := row_lt hx hy
          have hks : x + w * y < s.length := by omega
          obtain ⟨d, _, _, d1, d2⟩ := depth_eq a2 a3 a4 w2 k2 hx hy
          have hd : dep (x + w * y) = d := by simp only [dep, d1, Option.getD_some]
          show impl_GradeLosses_1_2 x y ((x + w * y : Nat) : Int) w h a2 a3 a4 p w h a2 a3 s q = _
          unfold impl_GradeLosses_1_2
          rw [d2, some_bind']
          simp only [f, hd]
          have hnot : decide (d < p) = !decide (d ≥ p) := by rw [← decide_not, decide_eq_decide]; omega
          rw [hnot]
          cases hc : decide (d ≥ p) with
          | true => rfl
          | false =>
            simp only [Bool.not_false, if_true, Bool.false_eq_true, if_false]
            rw [idx_nat, List.getElem?_eq_getElem hks, some_bind', ite_some, some_bind', some_bind', setF_nat hks, some_bind', some_bind']
            rfl) a4 l4
      refine ⟨((w : Int), (h : Int), a2, a3, foldN f (w * h) a4, true), ?_, ?_, ?_, ?_⟩
      · simp only; omega
      · have := A.2; simp only; omega
      · have := A.1; simp only [Int.ofNat_zero] at this; rw [this]; rfl
      · unfold impl_Sheet_each__impl_GradeLosses_1
        have := B.1; rw [this]; rfl

theorem laws_FnExactGradeLosses_true (a0 a1 : Int) (a2 : Bool) (a3 a4 : List (Option Nat)) (p : Int) (q : Option Nat) (h3 : a3.length ≤ 9223372036854775807) (h4 : a4.length ≤ 9223372036854775807) : laws_FnExactGradeLosses a0 a1 a2 a3 a4 p q = some true := by
  unfold laws_FnExactGradeLosses
  rcases szSheet_cases a0 a1 a2 a3 a4 1048576 (by omega) (by omega) h3 h4 with h | ⟨h, hl⟩
  · rw [h]; rfl
  · rw [h, some_bind', if_neg (by simp; omega)]
    obtain ⟨⟨r0, r1, r2, r3, r4, b⟩, q1, q2, e1, e2⟩ := grade_eq a0 a1 a2 a3 a4 p q (by omega) (by omega)
    simp only at q1 q2
    simp only [toSheet_eq a0 a1 a2 a3 a4 (by omega) (by omega), e1, e2, some_bind', eqSheet_self r0 r1 r2 r3 r4 (by omega) (by omega), eqSheet_self a0 a1 a2 a3 a4 (by omega) (by omega), bne_self_eq_false, Bool.not_true, Bool.false_eq_true, if_false, markSheet_eq a0 a1 a2 a3 a4 1 (by omega) (by omega), markSheet_eq r0 r1 r2 r3 r4 1 (by omega) (by omega), heldSheet_eq r0 r1 r2 1 r3.length r4.length (by omega) (by omega), not_neg (show 0 ≤ 1 + (a3.length : Int) + (a4.length : Int) by omega), not_neg (show 0 ≤ 1 + (r3.length : Int) + (r4.length : Int) by omega)]
end Go.H
