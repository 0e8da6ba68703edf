/- A rect that is filled: the plain law. -/
import Derived.Test.YtohfgnjmgipehaaGFillRect
set_option linter.unusedVariables false
namespace Go.H
open Go Ieee

theorem fill_eq (a0 a1 : Int) (a2 : Bool) (a3 a4 : List (Option Nat)) (p0 p1 p2 p3 : Int) (q q' : Option Nat) (h3 : a3.length ≤ 1000000000) (h4 : a4.length ≤ 1000000000) : ∃ r : Int × Int × Bool × List (Option Nat) × List (Option Nat) × Bool, r.2.2.2.1.length ≤ 256 ∧ r.2.2.2.2.1.length ≤ 256 ∧ spec_FillRect a0 a1 a2 a3 a4 p0 p1 p2 p3 q q' = some r ∧ impl_FillRect a0 a1 a2 a3 a4 p0 p1 p2 p3 q q' = some r := by
  unfold spec_FillRect impl_FillRect
  obtain ⟨v, u, e1, e2, g1, g2⟩ := rect_eq a0 a1 a2 a3 a4 p0 p1 p2 p3 h3 h4
  rw [e1, g1, g2]
  simp only [some_bind', ite_orB, share_eq, share_some]
  simp only [some_bind', ite_some]
  have hb : ∀ v u a b c : Bool, (if (!(v && u)) = true then true else if a = true then (!b || !c) else (!false || !c)) = (!v || (!u || (!(a && b) || !c))) := by decide
  simp only [hb]
  generalize hc : (!v || (!u || (!(fcmp .geq .f32 q (some 0) && fcmp .leq .f32 q (some 1056964608)) || !(fcmp .geq .f32 q' (some 0) && fcmp .leq .f32 q' (some 1065353216))))) = c
  cases c with
  | true => exact ⟨(0, 0, false, [], [], false), by simp, by simp, by simp, by simp⟩
  | false =>
    cases v with
    | false => cases hc
    | true =>
      obtain ⟨w, h, rfl, rfl, w1, w2, k1, k2, l3, l4⟩ := valid_has e2
      have hn := area_le w2 k2
      simp only [Bool.false_eq_true, if_false, (own_eq w h a2 a3 a4 h3 h4).1, (own_eq w h a2 a3 a4 h3 h4).2, some_bind']
      let inn := fun (i : Nat) => (spec_l05In p0 p1 p2 p3 ((i % w : Nat) : Int) ((i / w : Nat) : Int)).getD false
      let f := fun (i : Nat) (s : List (Option Nat) × List (Option Nat)) => if inn i = true then (s.1.set i q, s.2.set i q') else s
      let I := fun (_ : Nat) (s : List (Option Nat) × List (Option Nat)) => s.1.length = w * h ∧ s.2.length = w * h
      have hf : ∀ i s, I i s → I (i + 1) (f i s) := by
        intro i s hs
        obtain ⟨h1, h2⟩ := hs
        simp only [f, I]
        split <;> simp [h1, h2]
      have A := loop_fold (step := fun (s : (Int × (List (Option Nat)) × (List (Option Nat)))) => spec_FillRect.s0 w p0 p1 p2 p3 q q' ((w : Int), (h : Int), a2, a3, a4) s.1 s.2.1 s.2.2) (fun s k => ((k : Int), s)) f I (w * h) (fun s => (((w * h : Nat) : Int), false, s)) (a3, a4) ⟨l3, l4⟩ (fun k s hk hI => by
        refine ⟨?_, hf k s hI⟩
        obtain ⟨s1, s2⟩ := s
        obtain ⟨i1, i2⟩ := hI
        simp only at i1 i2
        show spec_FillRect.s0 w p0 p1 p2 p3 q q' ((w : Int), (h : Int), a2, a3, a4) (k : Int) s1 s2 = _
        obtain ⟨b, b1, _⟩ := has_eq p0 p1 p2 p3 ((k % w : Nat) : Int) ((k / w : Nat) : Int)
        have hb : inn k = b := by simp only [inn, b1, Option.getD_some]
        have em : Int.tmod (k : Int) (w : Int) = ((k % w : Nat) : Int) := rfl
        unfold spec_FillRect.s0
        rw [if_pos (by simp [l3]; omega), if_neg (by omega), if_neg (by omega), div_eq hk hn, em, b1, some_bind']
        simp only [f, hb, idx_nat, List.getElem?_eq_getElem (show k < s1.length by omega), List.getElem?_eq_getElem (show k < s2.length by omega), some_bind', setF_nat (show k < s1.length by omega), setF_nat (show k < s2.length by omega), one_more (show k ≤ 1000000000 by omega)]
        cases b <;> rfl) (fun s hI => by
        obtain ⟨s1, s2⟩ := s
        show spec_FillRect.s0 w p0 p1 p2 p3 q q' ((w : Int), (h : Int), a2, a3, a4) ((w * h : Nat) : Int) s1 s2 = _
        unfold spec_FillRect.s0
        rw [if_neg (by simp [l3])]
        simp [l3])
      have B := each_fold (C := Int × Int × Int × Int × (Option Nat) × (Option Nat) × Int × Int × Bool × (List (Option Nat)) × (List (Option Nat))) a2 a3 a4 w2 k2
        (step1 := fun yy (s : (Int × Int × Int × Int × Int × (Option Nat) × (Option Nat) × Int × Int × Bool × (List (Option Nat)) × (List (Option Nat)))) => impl_Sheet_each__impl_FillRect_1.s1 w h a2 a3 a4 yy s.1 s.2.1 s.2.2.1 s.2.2.2.1 s.2.2.2.2.1 s.2.2.2.2.2.1 s.2.2.2.2.2.2.1 s.2.2.2.2.2.2.2.1 s.2.2.2.2.2.2.2.2.1 s.2.2.2.2.2.2.2.2.2.1 s.2.2.2.2.2.2.2.2.2.2.1 s.2.2.2.2.2.2.2.2.2.2.2)
        (step0 := fun (s : (Int × Int × Int × Int × Int × (Option Nat) × (Option Nat) × Int × Int × Bool × (List (Option Nat)) × (List (Option Nat)))) => impl_Sheet_each__impl_FillRect_1.s0 w h a2 a3 a4 s.1 s.2.1 s.2.2.1 s.2.2.2.1 s.2.2.2.2.1 s.2.2.2.2.2.1 s.2.2.2.2.2.2.1 s.2.2.2.2.2.2.2.1 s.2.2.2.2.2.2.2.2.1 s.2.2.2.2.2.2.2.2.2.1 s.2.2.2.2.2.2.2.2.2.2.1 s.2.2.2.2.2.2.2.2.2.2.2)
        (fun xx yy i c => impl_FillRect_1_2 xx yy i c.1 c.2.1 c.2.2.1 c.2.2.2.1 c.2.2.2.2.1 c.2.2.2.2.2.1 c.2.2.2.2.2.2.1 c.2.2.2.2.2.2.2.1 c.2.2.2.2.2.2.2.2.1 c.2.2.2.2.2.2.2.2.2.1 c.2.2.2.2.2.2.2.2.2.2) (fun _ _ _ => rfl) (fun _ _ => rfl)
        (fun s => (p0, p1, p2, p3, q, q', (w : Int), (h : Int), a2, s)) f I (fun xx yy hx hy s hI => by
          refine ⟨?_, hf _ s hI⟩
          obtain ⟨s1, s2⟩ := s
          obtain ⟨i1, i2⟩ := hI
          simp only at i1 i2
          have hlt := row_lt hx hy
          obtain ⟨b, b1, b2⟩ := has_eq p0 p1 p2 p3 (xx : Int) (yy : Int)
          have hb : inn (xx + w * yy) = b := by simp only [inn, cell_mod hx, cell_div hx, b1, Option.getD_some]
          show impl_FillRect_1_2 xx yy ((xx + w * yy : Nat) : Int) p0 p1 p2 p3 q q' w h a2 s1 s2 = _
          unfold impl_FillRect_1_2
          rw [b2, some_bind']
          simp only [f, hb, idx_nat, List.getElem?_eq_getElem (show xx + w * yy < s1.length by omega), List.getElem?_eq_getElem (show xx + w * yy < s2.length by omega), some_bind', setF_nat (show xx + w * yy < s1.length by omega), setF_nat (show xx + w * yy < s2.length by omega)]
          cases b <;> rfl) (a3, a4) ⟨l3, l4⟩
      obtain ⟨A1, A2⟩ := A
      obtain ⟨B1, _⟩ := B
      generalize foldN f (w * h) (a3, a4) = r at A1 A2 B1
      obtain ⟨r1, r2⟩ := r
      obtain ⟨j1, j2⟩ := A2
      simp only at j1 j2
      refine ⟨((w : Int), (h : Int), a2, r1, r2, true), ?_, ?_, ?_, ?_⟩
      · simp only; omega
      · simp only; omega
      · simp only [Int.ofNat_zero] at A1; rw [A1]; rfl
      · unfold impl_Sheet_each__impl_FillRect_1
        rw [B1]; rfl

theorem laws_FnExactFillRect_true (a0 a1 : Int) (a2 : Bool) (a3 a4 : List (Option Nat)) (p0 p1 p2 p3 : Int) (q q' : Option Nat) (h3 : a3.length ≤ 9223372036854775807) (h4 : a4.length ≤ 9223372036854775807) : laws_FnExactFillRect a0 a1 a2 a3 a4 p0 p1 p2 p3 q q' = some true := by
  unfold laws_FnExactFillRect
  rcases szSheet_cases a0 a1 a2 a3 a4 1048576 (by omega) (by omega) h3 h4 with h | ⟨h, hl⟩
  · rw [h]; rfl
  · rw [h, some_bind', if_neg (by simp; omega)]
    obtain ⟨⟨r0, r1, r2, r3, r4, b⟩, q1, q2, e1, e2⟩ := fill_eq a0 a1 a2 a3 a4 p0 p1 p2 p3 q q' (by omega) (by omega)
    simp only at q1 q2
    simp only [toSheet_eq a0 a1 a2 a3 a4 (by omega) (by omega), laws_toRect, e1, e2, some_bind', eqSheet_self r0 r1 r2 r3 r4 (by omega) (by omega), eqSheet_self a0 a1 a2 a3 a4 (by omega) (by omega), bne_self_eq_false, Bool.not_true, Bool.false_eq_true, if_false, markSheet_eq a0 a1 a2 a3 a4 1 (by omega) (by omega), markSheet_eq r0 r1 r2 r3 r4 1 (by omega) (by omega), heldSheet_eq r0 r1 r2 1 r3.length r4.length (by omega) (by omega), not_neg (show 0 ≤ 1 + (a3.length : Int) + (a4.length : Int) by omega), not_neg (show 0 ≤ 1 + (r3.length : Int) + (r4.length : Int) by omega)]
end Go.H
