/- A sheet with a channel: the plain law. -/
import Derived.Test.YtohfgnjmgipehaaGChannelSheet
set_option linter.unusedVariables false
namespace Go.H
open Go Ieee

theorem channel_eq (a0 a1 : Int) (a2 : Bool) (a3 a4 : List (Option Nat)) (p q : Int) (h3 : a3.length ≤ 1000000000) (h4 : a4.length ≤ 1000000000) : ∃ r : Int × Int × Bool × List (Option Nat) × List (Option Nat) × Bool, r.2.2.2.1.length ≤ 256 ∧ r.2.2.2.2.1.length ≤ 256 ∧ spec_ChannelSheet a0 a1 a2 a3 a4 p q = some r ∧ impl_ChannelSheet a0 a1 a2 a3 a4 p q = some r := by
  unfold spec_ChannelSheet impl_ChannelSheet
  obtain ⟨v, e1, e2⟩ := is_eq a0 a1 a2 a3 a4 h3 h4
  rw [e1, e2]
  simp only [(in_eq _ _ _).1, (in_eq _ _ _).2, some_bind', ite_orB]
  cases v with
  | false => exact ⟨(0, 0, false, [], [], false), by simp, by simp, by simp, by simp⟩
  | true =>
    obtain ⟨w, h, rfl, rfl, w1, w2, k1, k2, l3, l4⟩ := valid_has e2
    have hn := area_le w2 k2
    simp only [Bool.not_true, Bool.false_or]
    have hb : ∀ s t : Bool, (!s || !t) = (!t || !s) := by decide
    rw [hb (decide (p ≥ 0) && decide (p ≤ q))]
    generalize (!(decide (q ≥ 0) && decide (q ≤ IntKind.wrap .i64 ((h : Int) - 1))) || !(decide (p ≥ 0) && decide (p ≤ q))) = c
    cases c with
    | true => exact ⟨(0, 0, false, [], [], false), by simp, by simp, rfl, rfl⟩
    | false =>
      simp only [Bool.false_eq_true, if_false, (own_eq w h a2 a3 a4 h3 h4).1, (own_eq w h a2 a3 a4 h3 h4).2, some_bind']
      let f := fun (i : Nat) (s : List (Option Nat)) => if (!(decide (((i / w : Nat) : Int) ≥ p) && decide (((i / w : Nat) : Int) ≤ q))) = true then s.set i (some 0) else s
      have hf : ∀ i s, s.length = w * h → (f i s).length = w * h := by
        intro i s hs
        simp only [f]
        split <;> simp [hs]
      have A := loop_fold (step := fun (s : (Int × (List (Option Nat)))) => spec_ChannelSheet.s0 w p q ((w : Int), (h : Int), a2, a3, a4) s.1 s.2) (fun s k => ((k : Int), s)) f (fun _ s => s.length = w * h) (w * h) (fun s => (((w * h : Nat) : Int), false, s)) a3 l3 (fun k s hk hI => by
        refine ⟨?_, hf k s hI⟩
        show spec_ChannelSheet.s0 w p q ((w : Int), (h : Int), a2, a3, a4) (k : Int) s = _
        unfold spec_ChannelSheet.s0
        rw [if_pos (by simp [l3]; omega), if_neg (by omega), div_eq hk hn, (in_eq _ _ _).1, some_bind', idx_nat, List.getElem?_eq_getElem (show k < s.length by omega), some_bind', setF_nat (by omega), some_bind', ite_some, some_bind', one_more (by omega)]) (fun s hI => by
        show spec_ChannelSheet.s0 w p q ((w : Int), (h : Int), a2, a3, a4) ((w * h : Nat) : Int) s = _
        unfold spec_ChannelSheet.s0
        rw [if_neg (by simp [l3])]
        simp [l3])
      have B := each_fold (C := Int × Int × Int × Int × Bool × (List (Option Nat)) × (List (Option Nat))) a2 a3 a4 w2 k2
        (step1 := fun y (s : (Int × Int × Int × Int × Int × Bool × (List (Option Nat)) × (List (Option Nat)))) => impl_Sheet_each__impl_ChannelSheet_1.s1 w h a2 a3 a4 y s.1 s.2.1 s.2.2.1 s.2.2.2.1 s.2.2.2.2.1 s.2.2.2.2.2.1 s.2.2.2.2.2.2.1 s.2.2.2.2.2.2.2)
        (step0 := fun (s : (Int × Int × Int × Int × Int × Bool × (List (Option Nat)) × (List (Option Nat)))) => impl_Sheet_each__impl_ChannelSheet_1.s0 w h a2 a3 a4 s.1 s.2.1 s.2.2.1 s.2.2.2.1 s.2.2.2.2.1 s.2.2.2.2.2.1 s.2.2.2.2.2.2.1 s.2.2.2.2.2.2.2)
        (fun x y i c => impl_ChannelSheet_1_2 x y i c.1 c.2.1 c.2.2.1 c.2.2.2.1 c.2.2.2.2.1 c.2.2.2.2.2.1 c.2.2.2.2.2.2) (fun _ _ _ => rfl) (fun _ _ => rfl)
        (fun s => (p, q, (w : Int), (h : Int), a2, s, a4)) f (fun _ s => s.length = w * h) (fun x y hx hy s hI => by
          refine ⟨?_, hf _ s hI⟩
          have hlt := row_lt hx hy
          show impl_ChannelSheet_1_2 x y ((x + w * y : Nat) : Int) p q w h a2 s a4 = _
          unfold impl_ChannelSheet_1_2
          rw [(in_eq _ _ _).2, some_bind', idx_nat, List.getElem?_eq_getElem (show x + w * y < s.length by omega), some_bind', setF_nat (by omega), some_bind', ite_some, some_bind']
          simp only [f, cell_div hx]) a3 l3
      refine ⟨((w : Int), (h : Int), a2, foldN f (w * h) a3, a4, true), ?_, ?_, ?_, ?_⟩
      · have := A.2; simp only; omega
      · simp only; omega
      · have := A.1; simp only [Int.ofNat_zero, Int.natCast_zero] at this; rw [this]; rfl
      · unfold impl_Sheet_each__impl_ChannelSheet_1
        have := B.1; rw [this]; rfl

theorem laws_FnExactChannelSheet_true (a0 a1 : Int) (a2 : Bool) (a3 a4 : List (Option Nat)) (p q : Int) (h3 : a3.length ≤ 9223372036854775807) (h4 : a4.length ≤ 9223372036854775807) : laws_FnExactChannelSheet a0 a1 a2 a3 a4 p q = some true := by
  unfold laws_FnExactChannelSheet
  rcases szSheet_cases a0 a1 a2 a3 a4 1048576 (by omega) (by omega) h3 h4 with h | ⟨h, hl⟩
  · rw [h]; rfl
  · rw [h, some_bind', if_neg (by simp; omega)]
    obtain ⟨⟨r0, r1, r2, r3, r4, b⟩, q1, q2, e1, e2⟩ := channel_eq a0 a1 a2 a3 a4 p q (by omega) (by omega)
    simp only at q1 q2
    simp only [toSheet_eq a0 a1 a2 a3 a4 (by omega) (by omega), e1, e2, some_bind', eqSheet_self r0 r1 r2 r3 r4 (by omega) (by omega), eqSheet_self a0 a1 a2 a3 a4 (by omega) (by omega), bne_self_eq_false, Bool.not_true, Bool.false_eq_true, if_false, markSheet_eq a0 a1 a2 a3 a4 1 (by omega) (by omega), markSheet_eq r0 r1 r2 r3 r4 1 (by omega) (by omega), heldSheet_eq r0 r1 r2 1 r3.length r4.length (by omega) (by omega), not_neg (show 0 ≤ 1 + (a3.length : Int) + (a4.length : Int) by omega), not_neg (show 0 ≤ 1 + (r3.length : Int) + (r4.length : Int) by omega)]
end Go.H
