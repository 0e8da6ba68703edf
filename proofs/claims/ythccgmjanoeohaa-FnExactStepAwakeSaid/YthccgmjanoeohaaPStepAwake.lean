/- A step of all that is awake: the plain law. -/
import Derived.Test.YthccgmjanoeohaaGStepAwake
import Derived.Test.YthccgmjanoeohaaPSleep
import Derived.Test.YthccgmjanoeohaaPStep
set_option linter.unusedVariables false
namespace Go.H
open Go Ieee

noncomputable def awakeF (B : List Bool) (k : Nat) (c : Int) : Int := if (!(B[k]?.getD true)) = true then IntKind.wrap .i64 (c + 1) else c

theorem awake_loop (B : List Bool) (hB : B.length ≤ 256) : loopF (fun (s : (Int × Int)) => spec_StepAwake.s0 B s.1 s.2) (0, 0) = some (foldN (awakeF B) B.length 0, (B.length : Int), false) := by
  have A := loop_fold (step := fun (s : (Int × Int)) => spec_StepAwake.s0 B s.1 s.2) (fun c k => (c, (k : Int))) (awakeF B) (fun _ _ => True) B.length (fun c => (c, (B.length : Int), false)) 0 trivial (fun k c hk _ => by
    refine ⟨?_, trivial⟩
    show spec_StepAwake.s0 B c (k : Int) = _
    unfold spec_StepAwake.s0 awakeF
    rw [if_pos (by simp; omega), idx_nat, List.getElem?_eq_getElem hk]
    simp only [some_bind', ite_some, one_more (show k ≤ 1000000000 by omega), Option.getD_some]) (fun c _ => by
    show spec_StepAwake.s0 B c (B.length : Int) = _
    unfold spec_StepAwake.s0
    rw [if_neg (by simp)]
    simp)
  exact A.1

theorem awake_eq (a0 a1 : Int) (a2 : Bool) (a3 a4 e x y : List (Option Nat)) (p : Int) (h3 : a3.length ≤ 1000000000) (h4 : a4.length ≤ 1000000000) : ∃ r : List (Option Nat) × List (Option Nat) × List (Option Nat) × Int × Bool, r.1.length ≤ 256 ∧ r.2.1.length ≤ 256 ∧ r.2.2.1.length ≤ 256 ∧ spec_StepAwake a0 a1 a2 a3 a4 e x y p = some r ∧ impl_StepAwake a0 a1 a2 a3 a4 e x y p = some r := by
  unfold spec_StepAwake impl_StepAwake
  obtain ⟨v, e1, e2⟩ := field_eq a0 a1 a2 a3 a4 e x y h3 h4
  rw [e1, (in_eq _ _ _).1]
  cases v with
  | false =>
    refine ⟨([], [], [], 0, false), by simp, by simp, by simp, by simp, ?_⟩
    unfold impl_SleepingBlocks
    rw [e2]; rfl
  | true =>
    cases hc : (decide (p ≥ 1) && decide (p ≤ 16)) with
    | false =>
      refine ⟨([], [], [], 0, false), by simp, by simp, by simp, by simp, ?_⟩
      unfold impl_SleepingBlocks
      rw [e2, (in_eq _ _ _).2, hc]; rfl
    | true =>
      obtain ⟨w, h, rfl, rfl, w1, w2, k1, k2, le, lx, ly, hv⟩ := field_num e2
      have hn := area_le w2 k2
      rw [Bool.and_eq_true, decide_eq_true_eq, decide_eq_true_eq] at hc
      obtain ⟨s, rfl⟩ := Int.eq_ofNat_of_zero_le (show 0 ≤ p by omega)
      have s1 : 1 ≤ s := by omega
      have s2 : s ≤ 16 := by omega
      obtain ⟨q1, q2⟩ := spec_sleep (s := s) a2 a3 a4 e x y w1 w2 k1 k2 s1 s2 le lx ly
      have q3 := impl_sleep (s := s) a2 a3 a4 e x y w1 w2 k1 k2 s1 s2 le lx ly e2
      obtain ⟨_, _, hw', hk', _, _, _, _, l3, l4⟩ := valid_has hv
      obtain rfl := Int.ofNat.inj hw'
      obtain rfl := Int.ofNat.inj hk'
      obtain ⟨E, X, Y, lE, lX, lY, st1, st2⟩ := full_step a2 a3 a4 e x y w1 w2 k1 k2 le lx ly l3 l4
      have hl := awake_loop (sleepL w h s a2 (nothingV e x y)) (by rw [q2]; exact area_le (Nat.le_trans (blocks_bd (by omega) s1).1 w2) (Nat.le_trans (blocks_bd (by omega) s1).1 k2))
      have hl' : loopF (fun (q : (Int × Int)) => impl_StepAwake.s0 (sleepL w h s a2 (nothingV e x y), true) q.1 q.2) (0, 0) = _ := hl
      refine ⟨(E, X, Y, foldN (awakeF (sleepL w h s a2 (nothingV e x y))) (sleepL w h s a2 (nothingV e x y)).length 0, true), by simp only; omega, by simp only; omega, by simp only; omega, ?_, ?_⟩
      · simp only [some_bind', Bool.not_true, Bool.false_eq_true, if_false, q1, hl, st1]
      · simp only [q3, some_bind', Bool.not_true, Bool.false_eq_true, if_false, hl', st2]

theorem laws_FnExactStepAwake_true (a0 a1 : Int) (a2 : Bool) (a3 a4 e x y : List (Option Nat)) (p : Int) (h3 : a3.length ≤ 9223372036854775807) (h4 : a4.length ≤ 9223372036854775807) (he : e.length ≤ 9223372036854775807) (hx : x.length ≤ 9223372036854775807) (hy : y.length ≤ 9223372036854775807) : laws_FnExactStepAwake a0 a1 a2 a3 a4 e x y p = some true := by
  unfold laws_FnExactStepAwake
  rcases szSheet_cases a0 a1 a2 a3 a4 1048576 (by omega) (by omega) h3 h4 with h | ⟨h, hl⟩
  · rw [h]; rfl
  · rw [h, some_bind', if_neg (by simp; omega)]
    rcases szField_cases e x y (1048576 - a3.length - a4.length) (by omega) (by omega) he hx hy with h | ⟨h, hl2⟩
    · rw [h]; rfl
    · rw [h, some_bind', if_neg (by simp; omega)]
      obtain ⟨⟨r1, r2, r3, c, b⟩, q1, q2, q3, e1, e2⟩ := awake_eq a0 a1 a2 a3 a4 e x y p (by omega) (by omega)
      simp only at q1 q2 q3
      simp only [toSheet_eq a0 a1 a2 a3 a4 (by omega) (by omega), toField_eq e x y (by omega) (by omega) (by omega), e1, e2, some_bind', eqField_self r1 r2 r3 (by omega) (by omega) (by omega), eqSheet_self a0 a1 a2 a3 a4 (by omega) (by omega), eqField_self e x y (by omega) (by omega) (by omega), bne_self_eq_false, Bool.not_true, Bool.false_eq_true, if_false,
        markSheet_eq a0 a1 a2 a3 a4 1 (by omega) (by omega), markField_eq e x y (1 + (a3.length : Int) + (a4.length : Int)) (by omega) (by omega), markField_eq r1 r2 r3 1 (by omega) (by omega), heldField_eq 1 r1.length r2.length r3.length (by omega) (by omega), not_neg (show 0 ≤ 1 + (a3.length : Int) + (a4.length : Int) + (e.length : Int) + (x.length : Int) + (y.length : Int) by omega), not_neg (show 0 ≤ 1 + (r1.length : Int) + (r2.length : Int) + (r3.length : Int) by omega)]
end Go.H
