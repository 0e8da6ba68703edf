/- Zeros in a rect: the plain law. -/
import Derived.Test.YtohfgnjmgipehaaGClearRect
import Derived.Test.YtohfgnjmgipehaaPField2
set_option linter.unusedVariables false
namespace Go.H
open Go Ieee

theorem clear_eq (a0 a1 : Int) (a2 : Bool) (a3 a4 e x y : List (Option Nat)) (p0 p1 p2 p3 : Int) (h3 : a3.length ≤ 1000000000) (h4 : a4.length ≤ 1000000000) : ∃ r : List (Option Nat) × List (Option Nat) × List (Option Nat) × Bool, r.1.length ≤ 256 ∧ r.2.1.length ≤ 256 ∧ r.2.2.1.length ≤ 256 ∧ spec_ClearRect a0 a1 a2 a3 a4 e x y p0 p1 p2 p3 = some r ∧ impl_ClearRect a0 a1 a2 a3 a4 e x y p0 p1 p2 p3 = some r := by
  unfold spec_ClearRect impl_ClearRect
  obtain ⟨v, e1, e2⟩ := field_eq a0 a1 a2 a3 a4 e x y h3 h4
  obtain ⟨v', u, f1, f2, g1, g2⟩ := rect_eq a0 a1 a2 a3 a4 p0 p1 p2 p3 h3 h4
  rw [e1, e2, g1, g2]
  simp only [some_bind', ite_orB]
  cases v with
  | false => exact ⟨([], [], [], false), by simp, by simp, by simp, by simp, by simp⟩
  | true =>
    obtain ⟨w, h, rfl, rfl, w1, w2, k1, k2, le, lx, ly, hv⟩ := field_num e2
    have hn := area_le w2 k2
    rw [hv] at f2
    cases f2
    simp only [Bool.not_true, Bool.false_or, Bool.true_and]
    cases u with
    | false => exact ⟨([], [], [], false), by simp, by simp, by simp, by simp, by simp⟩
    | true =>
      simp only [Bool.not_true, Bool.false_eq_true, if_false, (ownF_eq (show e.length ≤ 1000000000 by omega) (show x.length ≤ 1000000000 by omega) (show y.length ≤ 1000000000 by omega)).1, (ownF_eq (show e.length ≤ 1000000000 by omega) (show x.length ≤ 1000000000 by omega) (show y.length ≤ 1000000000 by omega)).2, some_bind']
      let inn := fun (i : Nat) => (spec_l05In p0 p1 p2 p3 ((i % w : Nat) : Int) ((i / w : Nat) : Int)).getD false
      let f := fun (i : Nat) (s : List (Option Nat) × List (Option Nat) × List (Option Nat)) => if inn i = true then (s.1.set i (some 0), s.2.1.set i (some 0), s.2.2.set i (some 0)) else s
      let I := fun (_ : Nat) (s : List (Option Nat) × List (Option Nat) × List (Option Nat)) => s.1.length = w * h ∧ s.2.1.length = w * h ∧ s.2.2.length = w * h
      have hf : ∀ i s, I i s → I (i + 1) (f i s) := by
        intro i s hs
        obtain ⟨h1, h2, h5⟩ := hs
        simp only [f, I]
        split <;> simp [h1, h2, h5]
      have A := loop_fold (step := fun (s : (Int × (List (Option Nat)) × (List (Option Nat)) × (List (Option Nat)))) => spec_ClearRect.s0 w p0 p1 p2 p3 (e, x, y) s.1 s.2.1 s.2.2.1 s.2.2.2) (fun s k => ((k : Int), s)) f I (w * h) (fun s => (((w * h : Nat) : Int), false, s)) (e, x, y) ⟨le, lx, ly⟩ (fun k s hk hI => by
        refine ⟨?_, hf k s hI⟩
        obtain ⟨s1, s2, s3⟩ := s
        obtain ⟨i1, i2, i3⟩ := hI
        simp only at i1 i2 i3
        show spec_ClearRect.s0 w p0 p1 p2 p3 (e, x, y) (k : Int) s1 s2 s3 = _
        obtain ⟨b, b1, _⟩ := has_eq p0 p1 p2 p3 ((k % w : Nat) : Int) ((k / w : Nat) : Int)
        have hb : inn k = b := by simp only [inn, b1, Option.getD_some]
        have em : Int.tmod (k : Int) (w : Int) = ((k % w : Nat) : Int) := rfl
        unfold spec_ClearRect.s0
        rw [if_pos (by simp [le]; omega), if_neg (by omega), if_neg (by omega), div_eq hk hn, em, b1, some_bind']
        simp only [f, hb, idx_nat, List.getElem?_eq_getElem (show k < s1.length by omega), List.getElem?_eq_getElem (show k < s2.length by omega), List.getElem?_eq_getElem (show k < s3.length by omega), some_bind', setF_nat (show k < s1.length by omega), setF_nat (show k < s2.length by omega), setF_nat (show k < s3.length by omega), one_more (show k ≤ 1000000000 by omega)]
        cases b <;> rfl) (fun s hI => by
        obtain ⟨s1, s2, s3⟩ := s
        show spec_ClearRect.s0 w p0 p1 p2 p3 (e, x, y) ((w * h : Nat) : Int) s1 s2 s3 = _
        unfold spec_ClearRect.s0
        rw [if_neg (by simp [le])]
        simp [le])
      have B := each_fold (C := Int × Int × Int × Int × (List (Option Nat)) × (List (Option Nat)) × (List (Option Nat))) a2 a3 a4 w2 k2
        (step1 := fun yy (s : (Int × Int × Int × Int × Int × (List (Option Nat)) × (List (Option Nat)) × (List (Option Nat)))) => impl_Sheet_each__impl_ClearRect_1.s1 w h a2 a3 a4 yy s.1 s.2.1 s.2.2.1 s.2.2.2.1 s.2.2.2.2.1 s.2.2.2.2.2.1 s.2.2.2.2.2.2.1 s.2.2.2.2.2.2.2)
        (step0 := fun (s : (Int × Int × Int × Int × Int × (List (Option Nat)) × (List (Option Nat)) × (List (Option Nat)))) => impl_Sheet_each__impl_ClearRect_1.s0 w h a2 a3 a4 s.1 s.2.1 s.2.2.1 s.2.2.2.1 s.2.2.2.2.1 s.2.2.2.2.2.1 s.2.2.2.2.2.2.1 s.2.2.2.2.2.2.2)
        (fun xx yy i c => impl_ClearRect_1_2 xx yy i c.1 c.2.1 c.2.2.1 c.2.2.2.1 c.2.2.2.2.1 c.2.2.2.2.2.1 c.2.2.2.2.2.2) (fun _ _ _ => rfl) (fun _ _ => rfl)
        (fun s => (p0, p1, p2, p3, s)) f I (fun xx yy hx hy s hI => by
          refine ⟨?_, hf _ s hI⟩
          obtain ⟨s1, s2, s3⟩ := s
          obtain ⟨i1, i2, i3⟩ := hI
          simp only at i1 i2 i3
          have hlt := row_lt hx hy
          obtain ⟨b, b1, b2⟩ := has_eq p0 p1 p2 p3 (xx : Int) (yy : Int)
          have hb : inn (xx + w * yy) = b := by simp only [inn, cell_mod hx, cell_div hx, b1, Option.getD_some]
          show impl_ClearRect_1_2 xx yy ((xx + w * yy : Nat) : Int) p0 p1 p2 p3 s1 s2 s3 = _
          unfold impl_ClearRect_1_2
          rw [b2, some_bind']
          simp only [f, hb, idx_nat, List.getElem?_eq_getElem (show xx + w * yy < s1.length by omega), List.getElem?_eq_getElem (show xx + w * yy < s2.length by omega), List.getElem?_eq_getElem (show xx + w * yy < s3.length by omega), some_bind', setF_nat (show xx + w * yy < s1.length by omega), setF_nat (show xx + w * yy < s2.length by omega), setF_nat (show xx + w * yy < s3.length by omega)]
          cases b <;> rfl) (e, x, y) ⟨le, lx, ly⟩
      obtain ⟨A1, A2⟩ := A
      obtain ⟨B1, _⟩ := B
      generalize foldN f (w * h) (e, x, y) = r at A1 A2 B1
      obtain ⟨r1, r2, r3⟩ := r
      obtain ⟨j1, j2, j3⟩ := A2
      simp only at j1 j2 j3
      refine ⟨(r1, r2, r3, true), ?_, ?_, ?_, ?_, ?_⟩
      · simp only; omega
      · simp only; omega
      · simp only; omega
      · simp only [Int.ofNat_zero] at A1; rw [A1]; rfl
      · unfold impl_Sheet_each__impl_ClearRect_1
        rw [B1]; rfl

theorem laws_FnExactClearRect_true (a0 a1 : Int) (a2 : Bool) (a3 a4 e x y : List (Option Nat)) (p0 p1 p2 p3 : Int) (h3 : a3.length ≤ 9223372036854775807) (h4 : a4.length ≤ 9223372036854775807) (he : e.length ≤ 9223372036854775807) (hx : x.length ≤ 9223372036854775807) (hy : y.length ≤ 9223372036854775807) : laws_FnExactClearRect a0 a1 a2 a3 a4 e x y p0 p1 p2 p3 = some true := by
  unfold laws_FnExactClearRect
  rcases szSheet_cases a0 a1 a2 a3 a4 1048576 (by omega) (by omega) h3 h4 with h | ⟨h, hl⟩
  · rw [h]; rfl
  · rw [h, some_bind', if_neg (by simp; omega)]
    rcases szField_cases e x y (1048576 - a3.length - a4.length) (by omega) (by omega) he hx hy with h | ⟨h, hl2⟩
    · rw [h]; rfl
    · rw [h, some_bind', if_neg (by simp; omega)]
      obtain ⟨⟨r1, r2, r3, b⟩, q1, q2, q3, e1, e2⟩ := clear_eq a0 a1 a2 a3 a4 e x y p0 p1 p2 p3 (by omega) (by omega)
      simp only at q1 q2 q3
      simp only [toSheet_eq a0 a1 a2 a3 a4 (by omega) (by omega), toField_eq e x y (by omega) (by omega) (by omega), laws_toRect, e1, e2, some_bind', eqField_self r1 r2 r3 (by omega) (by omega) (by omega), eqSheet_self a0 a1 a2 a3 a4 (by omega) (by omega), eqField_self e x y (by omega) (by omega) (by omega), bne_self_eq_false, Bool.not_true, Bool.false_eq_true, if_false,
        markSheet_eq a0 a1 a2 a3 a4 1 (by omega) (by omega), markField_eq e x y (1 + (a3.length : Int) + (a4.length : Int)) (by omega) (by omega), markField_eq r1 r2 r3 1 (by omega) (by omega), heldField_eq 1 r1.length r2.length r3.length (by omega) (by omega), not_neg (show 0 ≤ 1 + (a3.length : Int) + (a4.length : Int) + (e.length : Int) + (x.length : Int) + (y.length : Int) by omega), not_neg (show 0 ≤ 1 + (r1.length : Int) + (r2.length : Int) + (r3.length : Int) by omega)]
end Go.H
