/- A step, and the part of a field: the plain law. -/
import Derived.Test.YthccgmjanoeohaaGStepStrip
import Derived.Test.YthccgmjanoeohaaPStep
set_option linter.unusedVariables false
namespace Go.H
open Go Ieee

/-- the numbers of some rows -/
theorem sub_rows {w k p n : Nat} (l : List (Option Nat)) (hl : l.length = w * k) (hw : w ≤ 16) (hk : k ≤ 16) (h1 : 1 ≤ n) (h2 : p + n ≤ k) (hw0 : 1 ≤ w) :
    ∃ r, 0 < r.length ∧ r.length ≤ 256 ∧ sub l (IntKind.wrap .i64 ((w : Int) * (p : Int))) (IntKind.wrap .i64 ((w : Int) * (IntKind.wrap .i64 ((p : Int) + (n : Int))))) = some r ∧
      sub l (IntKind.wrap .i64 ((p : Int) * (w : Int))) (IntKind.wrap .i64 ((IntKind.wrap .i64 ((p : Int) + (n : Int))) * (w : Int))) = some r := by
  have hn := area_le hw hk
  have e0 : IntKind.wrap .i64 ((p : Int) + (n : Int)) = ((p + n : Nat) : Int) := by rw [wrap_small (by omega) (by omega)]; simp
  have hm1 : w * p ≤ w * k := Nat.mul_le_mul_left _ (by omega)
  have hm2 : w * (p + n) ≤ w * k := Nat.mul_le_mul_left _ h2
  have hm3 : w * p + w * n = w * (p + n) := by rw [Nat.mul_add]
  have hm4 : 1 * 1 ≤ w * n := Nat.mul_le_mul hw0 h1
  have e1 : IntKind.wrap .i64 ((w : Int) * (p : Int)) = ((w * p : Nat) : Int) := by
    rw [show (w : Int) * (p : Int) = ((w * p : Nat) : Int) by simp]; exact wrap_small (by omega) (by omega)
  have e2 : IntKind.wrap .i64 ((w : Int) * ((p + n : Nat) : Int)) = ((w * (p + n) : Nat) : Int) := by
    rw [show (w : Int) * ((p + n : Nat) : Int) = ((w * (p + n) : Nat) : Int) by simp]; exact wrap_small (by omega) (by omega)
  rw [e0, Int.mul_comm (p : Int) (w : Int), Int.mul_comm ((p + n : Nat) : Int) (w : Int), e1, e2]
  unfold sub
  rw [if_pos ⟨by omega, by omega, by omega⟩]
  refine ⟨_, ?_, ?_, rfl, rfl⟩ <;> simp only [Int.toNat_natCast, List.length_take, List.length_drop] <;> omega

theorem stepStrip_eq (a0 a1 : Int) (a2 : Bool) (a3 a4 e x y : List (Option Nat)) (p n : Int) (h3 : a3.length ≤ 1000000000) (h4 : a4.length ≤ 1000000000) : ∃ r : List (Option Nat) × List (Option Nat) × List (Option Nat) × Bool, r.1.length ≤ 256 ∧ r.2.1.length ≤ 256 ∧ r.2.2.1.length ≤ 256 ∧ spec_StepStrip a0 a1 a2 a3 a4 e x y p n = some r ∧ impl_StepStrip a0 a1 a2 a3 a4 e x y p n = some r := by
  unfold spec_StepStrip impl_StepStrip spec_l07Is impl_IsStrip
  obtain ⟨v, e1, e2⟩ := field_eq a0 a1 a2 a3 a4 e x y h3 h4
  rw [e1, e2]
  simp only [(in_eq _ _ _).1, (in_eq _ _ _).2, some_bind', ite_andB, ite_orB]
  cases v with
  | false =>
    obtain ⟨u, _, e4⟩ := is_eq a0 a1 a2 a3 a4 h3 h4
    rw [e4]
    exact ⟨([], [], [], false), by simp, by simp, by simp, by simp, by simp⟩
  | true =>
    obtain ⟨w, k, rfl, rfl, w1, w2, k1, k2, le, lx, ly, hv⟩ := field_num e2
    have hn := area_le w2 k2
    rw [hv]
    simp only [Bool.not_true, Bool.false_or, some_bind', Bool.true_and]
    rw [wrap_small (n := (k : Int) - 1) (by omega) (by omega)]
    generalize hc : (!((decide (p ≥ 0) && decide (p ≤ (k : Int) - 1)) && (decide (n ≥ 1) && decide (n ≤ IntKind.wrap .i64 ((k : Int) - p))))) = c
    cases c with
    | true => exact ⟨([], [], [], false), by simp, by simp, by simp, by simp, by simp⟩
    | false =>
      simp only [Bool.not_eq_false', Bool.and_eq_true, decide_eq_true_eq] at hc
      obtain ⟨p, rfl⟩ := Int.eq_ofNat_of_zero_le (show 0 ≤ p by omega)
      obtain ⟨n, rfl⟩ := Int.eq_ofNat_of_zero_le (show 0 ≤ n by omega)
      rw [wrap_small (n := (k : Int) - p) (by omega) (by omega)] at hc
      obtain ⟨_, _, hw', hk', _, _, _, _, l3, l4⟩ := valid_has hv
      obtain rfl := Int.ofNat.inj hw'
      obtain rfl := Int.ofNat.inj hk'
      obtain ⟨E, X, Y, lE, lX, lY, st1, st2⟩ := full_step a2 a3 a4 e x y w1 w2 k1 k2 le lx ly l3 l4
      obtain ⟨r1, q1, q2, s1, t1⟩ := sub_rows (p := p) (n := n) E lE w2 k2 (by omega) (by omega) (by omega)
      obtain ⟨r2, q3, q4, s2, t2⟩ := sub_rows (p := p) (n := n) X lX w2 k2 (by omega) (by omega) (by omega)
      obtain ⟨r3, q5, q6, s3, t3⟩ := sub_rows (p := p) (n := n) Y lY w2 k2 (by omega) (by omega) (by omega)
      have cp : ∀ l : List (Option Nat), l.length ≤ 256 → impl_copyOf l = some l := by
        intro l hl
        unfold impl_copyOf
        rw [if_pos (by simp; omega)]; rfl
      refine ⟨(r1, r2, r3, true), q2, q4, q6, ?_, ?_⟩
      · unfold spec_l07Cut
        simp only [Bool.false_eq_true, if_false, st1, s1, s2, s3, some_bind']
        rw [if_pos ⟨q1, by omega⟩, if_pos ⟨q3, by omega⟩, if_pos ⟨q5, by omega⟩, some_bind']
      · unfold impl_cutStrip impl_cut
        simp only [Bool.false_eq_true, if_false, st2, t1, t2, t3, some_bind', cp _ q2, cp _ q4, cp _ q6]

theorem laws_FnExactStepStrip_true (a0 a1 : Int) (a2 : Bool) (a3 a4 e x y : List (Option Nat)) (p n : Int) (h3 : a3.length ≤ 9223372036854775807) (h4 : a4.length ≤ 9223372036854775807) (he : e.length ≤ 9223372036854775807) (hx : x.length ≤ 9223372036854775807) (hy : y.length ≤ 9223372036854775807) : laws_FnExactStepStrip a0 a1 a2 a3 a4 e x y p n = some true := by
  unfold laws_FnExactStepStrip
  rcases szSheet_cases a0 a1 a2 a3 a4 1048576 (by omega) (by omega) h3 h4 with h | ⟨h, hl⟩
  · rw [h]; rfl
  · rw [h, some_bind', if_neg (by simp; omega)]
    rcases szField_cases e x y (1048576 - a3.length - a4.length) (by omega) (by omega) he hx hy with h | ⟨h, hl2⟩
    · rw [h]; rfl
    · rw [h, some_bind', if_neg (by simp; omega)]
      obtain ⟨⟨r1, r2, r3, b⟩, q1, q2, q3, e1, e2⟩ := stepStrip_eq a0 a1 a2 a3 a4 e x y p n (by omega) (by omega)
      simp only at q1 q2 q3
      simp only [toSheet_eq a0 a1 a2 a3 a4 (by omega) (by omega), toField_eq e x y (by omega) (by omega) (by omega), laws_toStrip, e1, e2, some_bind', eqField_self r1 r2 r3 (by omega) (by omega) (by omega), eqSheet_self a0 a1 a2 a3 a4 (by omega) (by omega), eqField_self e x y (by omega) (by omega) (by omega), bne_self_eq_false, Bool.not_true, Bool.false_eq_true, if_false,
        markSheet_eq a0 a1 a2 a3 a4 1 (by omega) (by omega), markField_eq e x y (1 + (a3.length : Int) + (a4.length : Int)) (by omega) (by omega), markField_eq r1 r2 r3 1 (by omega) (by omega), heldField_eq 1 r1.length r2.length r3.length (by omega) (by omega), not_neg (show 0 ≤ 1 + (a3.length : Int) + (a4.length : Int) + (e.length : Int) + (x.length : Int) + (y.length : Int) by omega), not_neg (show 0 ≤ 1 + (r1.length : Int) + (r2.length : Int) + (r3.length : Int) by omega)]
end Go.H
