/- A field that falls towards the border: the plain law. -/
import Derived.Test.YtohfgnjmgipehaaGRampField
import Derived.Test.YtohfgnjmgipehaaPField2
set_option linter.unusedVariables false
namespace Go.H
open Go Ieee

theorem depth_cell {w h i : Nat} (b : Bool) (l m : List (Option Nat)) (hw0 : 0 < w) (hw : w ≤ 16) (hh : h ≤ 16) (hi : i < w * h) : ∃ d : Int, 0 ≤ d ∧ d ≤ 16 ∧ spec_l05Depth w h b l m (i : Int) = some d ∧ impl_Sheet_depth w h b l m ((i % w : Nat) : Int) ((i / w : Nat) : Int) = some d := by
  have := depth_eq b l m hw hh (Nat.mod_lt i hw0) (Nat.div_lt_of_lt_mul hi)
  rw [Nat.mod_add_div i w] at this
  exact this

theorem ramp_eq (a0 a1 : Int) (a2 : Bool) (a3 a4 e x y : List (Option Nat)) (p : Int) (h3 : a3.length ≤ 1000000000) (h4 : a4.length ≤ 1000000000) : ∃ r : List (Option Nat) × List (Option Nat) × List (Option Nat) × Bool, r.1.length ≤ 256 ∧ r.2.1.length ≤ 256 ∧ r.2.2.1.length ≤ 256 ∧ spec_RampField a0 a1 a2 a3 a4 e x y p = some r ∧ impl_RampField a0 a1 a2 a3 a4 e x y p = some r := by
  unfold spec_RampField impl_RampField impl_isWidth
  obtain ⟨v, e1, e2⟩ := field_eq a0 a1 a2 a3 a4 e x y h3 h4
  rw [e1, e2]
  simp only [(in_eq _ _ _).1, (in_eq _ _ _).2, some_bind', ite_orB]
  cases v with
  | false => exact ⟨([], [], [], false), by simp, by simp, by simp, by simp, by simp⟩
  | true =>
    obtain ⟨w, h, rfl, rfl, w1, w2, k1, k2, le, lx, ly, hv⟩ := field_num e2
    have hn := area_le w2 k2
    have hs := both_is e1
    simp only [Bool.not_true, Bool.false_or]
    generalize (!(decide (p ≥ 1) && decide (p ≤ 16))) = c
    cases c with
    | true => exact ⟨([], [], [], false), by simp, by simp, by simp, by simp, by simp⟩
    | false =>
      simp only [Bool.false_eq_true, if_false, (ownF_eq (show e.length ≤ 1000000000 by omega) (show x.length ≤ 1000000000 by omega) (show y.length ≤ 1000000000 by omega)).1, (ownF_eq (show e.length ≤ 1000000000 by omega) (show x.length ≤ 1000000000 by omega) (show y.length ≤ 1000000000 by omega)).2, some_bind']
      let dep := fun (i : Nat) => (spec_l05Depth w h a2 a3 a4 (i : Int)).getD 0
      let f := fun (i : Nat) (s : List (Option Nat)) => if decide (dep i < p) = true then s.set i (fop .mul .f32 (s[i]?.getD none) (fop .quo .f32 (fofi .f32 (dep i)) (fofi .f32 p))) else s
      have hf : ∀ i s, s.length = w * h → (f i s).length = w * h := by
        intro i s hs
        simp only [f]
        split <;> simp [hs]
      have A := loop_fold (step := fun (s : (Int × (List (Option Nat)))) => spec_RampField.s0 w h a2 a3 a4 p (e, x, y) s.1 s.2) (fun s k => ((k : Int), s)) f (fun _ s => s.length = w * h) (w * h) (fun s => (((w * h : Nat) : Int), false, s)) e le (fun k s hk hI => by
        refine ⟨?_, hf k s hI⟩
        show spec_RampField.s0 w h a2 a3 a4 p (e, x, y) (k : Int) s = _
        obtain ⟨d, _, _, d1, _⟩ := depth_cell a2 a3 a4 (show 0 < w by omega) w2 k2 hk
        have hd : dep k = d := by simp only [dep, d1, Option.getD_some]
        have hks : k < s.length := by omega
        unfold spec_RampField.s0
        rw [if_pos (by simp [le]; omega), d1, some_bind']
        simp only [f, hd, idx_nat, List.getElem?_eq_getElem hks, some_bind', setF_nat hks, ite_some, one_more (show k ≤ 1000000000 by omega), Option.getD_some]) (fun s hI => by
        show spec_RampField.s0 w h a2 a3 a4 p (e, x, y) ((w * h : Nat) : Int) s = _
        unfold spec_RampField.s0
        rw [if_neg (by simp [le])]
        simp [le])
      have B := each_fold (C := Int × Int × Bool × Int × (List (Option Nat)) × (List (Option Nat)) × (List (Option Nat))) a2 a3 a4 w2 k2
        (step1 := fun yy (s : (Int × Int × Int × Bool × Int × (List (Option Nat)) × (List (Option Nat)) × (List (Option Nat)))) => impl_Sheet_each__impl_RampField_1.s1 w h a2 a3 a4 a3 a4 yy s.1 s.2.1 s.2.2.1 s.2.2.2.1 s.2.2.2.2.1 s.2.2.2.2.2.1 s.2.2.2.2.2.2.1 s.2.2.2.2.2.2.2)
        (step0 := fun (s : (Int × Int × Int × Bool × Int × (List (Option Nat)) × (List (Option Nat)) × (List (Option Nat)))) => impl_Sheet_each__impl_RampField_1.s0 w h a2 a3 a4 a3 a4 s.1 s.2.1 s.2.2.1 s.2.2.2.1 s.2.2.2.2.1 s.2.2.2.2.2.1 s.2.2.2.2.2.2.1 s.2.2.2.2.2.2.2)
        (fun xx yy i c => impl_RampField_1_2 xx yy i c.1 c.2.1 c.2.2.1 a3 a4 c.2.2.2.1 c.2.2.2.2.1 c.2.2.2.2.2.1 c.2.2.2.2.2.2) (fun _ _ _ => rfl) (fun _ _ => rfl)
        (fun s => ((w : Int), (h : Int), a2, p, s, x, y)) f (fun _ s => s.length = w * h) (fun xx yy hx hy s hI => by
          refine ⟨?_, hf _ s hI⟩
          have hlt := row_lt hx hy
          have hks : xx + w * yy < s.length := by omega
          obtain ⟨d, _, _, d1, d2⟩ := depth_eq a2 a3 a4 w2 k2 hx hy
          have hd : dep (xx + w * yy) = d := by simp only [dep, d1, Option.getD_some]
          show impl_RampField_1_2 xx yy ((xx + w * yy : Nat) : Int) w h a2 a3 a4 p s x y = _
          unfold impl_RampField_1_2
          rw [d2, some_bind']
          simp only [f, hd, idx_nat, List.getElem?_eq_getElem hks, some_bind', setF_nat hks, ite_some, Option.getD_some]) e le
      have hlen : (foldN f (w * h) e).length = w * h := A.2
      obtain ⟨c, f1, f2⟩ := fits_eq (foldN f (w * h) e) x y h3 h4 hs
      refine ⟨if (!c) = true then ([], [], [], false) else (foldN f (w * h) e, x, y, true), ?_, ?_, ?_, ?_, ?_⟩
      · split <;> simp only [List.length_nil] <;> omega
      · split <;> simp only [List.length_nil] <;> omega
      · split <;> simp only [List.length_nil] <;> omega
      · have := A.1; simp only [Int.ofNat_zero] at this; rw [this]; simp only [some_bind', f1, ite_some]
      · unfold impl_Sheet_each__impl_RampField_1 impl_validField
        have := B.1; rw [this]; simp only [some_bind', f2, ite_some]

theorem laws_FnExactRampField_true (a0 a1 : Int) (a2 : Bool) (a3 a4 e x y : List (Option Nat)) (p : Int) (h3 : a3.length ≤ 9223372036854775807) (h4 : a4.length ≤ 9223372036854775807) (he : e.length ≤ 9223372036854775807) (hx : x.length ≤ 9223372036854775807) (hy : y.length ≤ 9223372036854775807) : laws_FnExactRampField a0 a1 a2 a3 a4 e x y p = some true := by
  unfold laws_FnExactRampField
  rcases szSheet_cases a0 a1 a2 a3 a4 1048576 (by omega) (by omega) h3 h4 with h | ⟨h, hl⟩
  · rw [h]; rfl
  · rw [h, some_bind', if_neg (by simp; omega)]
    rcases szField_cases e x y (1048576 - a3.length - a4.length) (by omega) (by omega) he hx hy with h | ⟨h, hl2⟩
    · rw [h]; rfl
    · rw [h, some_bind', if_neg (by simp; omega)]
      obtain ⟨⟨r1, r2, r3, b⟩, q1, q2, q3, e1, e2⟩ := ramp_eq a0 a1 a2 a3 a4 e x y p (by omega) (by omega)
      simp only at q1 q2 q3
      simp only [toSheet_eq a0 a1 a2 a3 a4 (by omega) (by omega), toField_eq e x y (by omega) (by omega) (by omega), e1, e2, some_bind', eqField_self r1 r2 r3 (by omega) (by omega) (by omega), eqSheet_self a0 a1 a2 a3 a4 (by omega) (by omega), eqField_self e x y (by omega) (by omega) (by omega), bne_self_eq_false, Bool.not_true, Bool.false_eq_true, if_false,
        markSheet_eq a0 a1 a2 a3 a4 1 (by omega) (by omega), markField_eq e x y (1 + (a3.length : Int) + (a4.length : Int)) (by omega) (by omega), markField_eq r1 r2 r3 1 (by omega) (by omega), heldField_eq 1 r1.length r2.length r3.length (by omega) (by omega), not_neg (show 0 ≤ 1 + (a3.length : Int) + (a4.length : Int) + (e.length : Int) + (x.length : Int) + (y.length : Int) by omega), not_neg (show 0 ≤ 1 + (r1.length : Int) + (r2.length : Int) + (r3.length : Int) by omega)]
end Go.H
