/- Fields that are drawn fit. -/
import Derived.Test.YtjlnfficehomhaaGreatDoorPDraw
set_option linter.unusedVariables false
namespace Go.H
open Go Ieee

theorem min_val (x y : Int) : spec_l00Min x y = some (if x < y then x else y) := by
  unfold spec_l00Min
  by_cases h : x < y
  · rw [if_pos (by simpa using h), if_pos h]
  · rw [if_neg (by simpa using h), if_neg h]
theorem max_val (x y : Int) : spec_l00Max x y = some (if x > y then x else y) := by
  unfold spec_l00Max
  by_cases h : x > y
  · rw [if_pos (by simpa using h), if_pos h]
  · rw [if_neg (by simpa using h), if_neg h]

/-- what the rim of a field has -/
def rimOK (w h : Nat) (e x y : List (Option Nat)) (j : Nat) : Prop :=
  ((j % w = 0 ∨ j % w = w - 1 ∨ j / w = 0 ∨ j / w = h - 1) → e[j]? = some (some 0)) ∧ (j / w = h - 1 → x[j]? = some (some 0)) ∧ (j % w = w - 1 → y[j]? = some (some 0))

theorem get_set {α : Type} {l : List α} {k j : Nat} {z : α} (c : Bool) (h : k < l.length) : (if c = true then l.set k z else l)[j]? = if c = true ∧ j = k then some z else l[j]? := by
  cases c with
  | true =>
    by_cases hj : j = k
    · subst hj; simp [h]
    · rw [if_pos rfl, List.getElem?_set_ne (Ne.symm hj), if_neg (fun hh => hj hh.2)]
  | false => simp

theorem field_draw {a : List Int} (hb : ∀ x ∈ a, 0 ≤ x ∧ x ≤ 255) {w h : Nat} {b : Bool} {l m : List (Option Nat)} (hv : impl_ValidSheet w h b l m = some true) (w1 : 3 ≤ w) (w2 : w ≤ 16) (k1 : 3 ≤ h) (k2 : h ≤ 16) (ll : l.length = w * h) (lm : m.length = w * h) :
    ∃ e x y : List (Option Nat), spec_B10Field a w h b l m = some (e, x, y) ∧ e.length = w * h ∧ x.length = w * h ∧ y.length = w * h ∧ impl_IsField w h b l m e x y = some true := by
  have hn := area_le w2 k2
  have h9 : 3 * 3 ≤ w * h := Nat.mul_le_mul w1 k1
  unfold spec_B10Field spec_l00From spec_l02DrawField
  have hn3 : (if (289 : Int) < ((w * h : Nat) : Int) then 289 else ((w * h : Nat) : Int)) = ((w * h : Nat) : Int) := by rw [if_neg (by omega)]
  simp only [some_bind', min_val, max_val, show (if (17 : Int) < (w : Int) then 17 else (w : Int)) = (w : Int) from if_neg (by omega), show (if (17 : Int) < (h : Int) then 17 else (h : Int)) = (h : Int) from if_neg (by omega), area_eq w2 k2, hn3, show (if (0 : Int) > ((w * h : Nat) : Int) then 0 else ((w * h : Nat) : Int)) = ((w * h : Nat) : Int) from if_neg (by omega)]
  have hz : spec_l02Zero ((w * h : Nat) : Int) = some (List.replicate (w * h) (some 0), List.replicate (w * h) (some 0), List.replicate (w * h) (some 0)) := by
    unfold spec_l02Zero
    have c : 0 ≤ ((w * h : Nat) : Int) ∧ ((w * h : Nat) : Int) ≤ 1000000000 := ⟨by omega, by omega⟩
    simp only [if_pos c, Int.toNat_natCast]
  rw [hz]
  simp only [some_bind']
  obtain ⟨kd, p1, q1, e1, a1, a2, a3, a4⟩ := pick_ok hb 0 0 4 (by omega) (by omega)
  rw [e1]
  simp only [some_bind']
  have A := loop_ex (S := Int × Int × List (Option Nat) × List (Option Nat) × List (Option Nat)) (step := fun (s : (Int × Int × Int × (List (Option Nat)) × (List (Option Nat)) × (List (Option Nat)))) => spec_l02DrawField.s0 a ((w * h : Nat) : Int) (kd, p1, q1) s.1 s.2.1 s.2.2.1 s.2.2.2.1 s.2.2.2.2.1 s.2.2.2.2.2)
    (fun s k => ((k : Int), s.1, s.2.1, s.2.2.1, s.2.2.2.1, s.2.2.2.2)) (fun k s => 0 ≤ s.1 ∧ s.1 ≤ 100 + 30 * (k : Int) ∧ s.2.2.1.length = w * h ∧ s.2.2.2.1.length = w * h ∧ s.2.2.2.2.length = w * h) (w * h) (fun s => (((w * h : Nat) : Int), false, s.1, s.2.1, s.2.2.1, s.2.2.2.1, s.2.2.2.2)) (p1, q1, List.replicate (w * h) (some 0), List.replicate (w * h) (some 0), List.replicate (w * h) (some 0)) ⟨by simp only; omega, by simp only; omega, by simp, by simp, by simp⟩ (fun k s hk hI => by
      obtain ⟨i1, i2, i3, i4, i5⟩ := hI
      obtain ⟨sp, sq, se, sx, sy⟩ := s
      simp only at i1 i2 i3 i4 i5
      show ∃ s', spec_l02DrawField.s0 a ((w * h : Nat) : Int) (kd, p1, q1) (k : Int) sp sq se sx sy = _ ∧ _
      unfold spec_l02DrawField.s0
      rw [if_pos (decide_eq_true (Int.ofNat_lt.2 hk))]
      have hke : k < se.length := by omega
      have hkx : k < sx.length := by omega
      have hky : k < sy.length := by omega
      have t1 : ∃ (c : Bool) (p' q' : Int), (if (kd == 0) = true then ((spec_l00Src_one a sp sq 8).bind fun (x29 : (Bool × Int × Int)) => some (!x29.1, x29.2.1, x29.2.2)) else some (false, sp, sq)) = some (c, p', q') ∧ sp ≤ p' ∧ p' ≤ sp + 2 := by
        split
        · obtain ⟨o, p2, q2, f, g1, g2⟩ := one_ok hb sp sq 8 i1 (by omega)
          rw [f]
          exact ⟨_, _, _, rfl, g1, g2⟩
        · exact ⟨_, _, _, rfl, by omega, by omega⟩
      obtain ⟨c, p2, q2, f1, g1, g2⟩ := t1
      rw [f1]
      simp only [some_bind']
      cases c with
      | true =>
        simp only [if_true, some_bind', one_more (show k ≤ 1000000000 by omega)]
        exact ⟨(p2, q2, se, sx, sy), rfl, by simp only; omega, by simp only; omega, i3, i4, i5⟩
      | false =>
        obtain ⟨v, p3, q3, f2, _, _, g3, g4⟩ := pick_ok hb p2 q2 17 (by omega) (by omega)
        simp only [Bool.false_eq_true, if_false, f2, some_bind', idx_nat, List.getElem?_eq_getElem hke, setF_nat hke]
        have t2 : ∃ (sy' : List (Option Nat)) (p' q' : Int) (sx' : List (Option Nat)), (if (decide (kd > 1)) = true then ((spec_l00Src_pick a p3 q3 17).bind fun (x37 : (Int × Int × Int)) => ((idx sx (k : Int)).bind fun (x38 : Option Nat) => ((setF sx (k : Int) (fop .quo .f32 (fofi .f32 (IntKind.wrap .i64 (x37.1 - 8))) (some 1082130432))).bind fun (x39 : List (Option Nat)) => ((spec_l01DrawPlain a x37.2.1 x37.2.2).bind fun (x40 : ((Option Nat) × Int × Int)) => ((idx sy (k : Int)).bind fun (x41 : Option Nat) => ((setF sy (k : Int) x40.1).bind fun (x42 : List (Option Nat)) => some (x42, x40.2.1, x40.2.2, x39))))))) else some (sy, p3, q3, sx)) = some (sy', p', q', sx') ∧ p3 ≤ p' ∧ p' ≤ p3 + 6 ∧ sy'.length = w * h ∧ sx'.length = w * h := by
          split
          · obtain ⟨v2, p4, q4, f3, _, _, g5, g6⟩ := pick_ok hb p3 q3 17 (by omega) (by omega)
            obtain ⟨v3, p5, q5, f4, g7, g8⟩ := plain_ok hb p4 q4 (by omega) (by omega)
            simp only [f3, f4, some_bind', idx_nat, List.getElem?_eq_getElem hkx, List.getElem?_eq_getElem hky, setF_nat hkx, setF_nat hky]
            exact ⟨_, _, _, _, rfl, by omega, by omega, by simp [i5], by simp [i4]⟩
          · exact ⟨_, _, _, _, rfl, by omega, by omega, i5, i4⟩
        obtain ⟨sy', p4, q4, sx', f3, g5, g6, l5, l4⟩ := t2
        have f3' := f3
        simp only [idx_nat] at f3'
        rw [f3']
        simp only [some_bind']
        have t3 : ∃ (c : Bool) (p' q' : Int), (if (kd == 3) = true then ((spec_l00Src_one a p4 q4 6).bind fun (x46 : (Bool × Int × Int)) => some (x46.1, x46.2.1, x46.2.2)) else some (false, p4, q4)) = some (c, p', q') ∧ p4 ≤ p' ∧ p' ≤ p4 + 2 := by
          split
          · obtain ⟨o, p5, q5, f, g1, g2⟩ := one_ok hb p4 q4 6 (by omega) (by omega)
            rw [f]
            exact ⟨_, _, _, rfl, g1, g2⟩
          · exact ⟨_, _, _, rfl, by omega, by omega⟩
        obtain ⟨c2, p5, q5, f4, g7, g8⟩ := t3
        rw [f4]
        simp only [some_bind']
        cases c2 with
        | false =>
          simp only [Bool.false_eq_true, if_false, some_bind', one_more (show k ≤ 1000000000 by omega)]
          exact ⟨(p5, q5, _, sx', sy'), rfl, by simp only; omega, by simp only; omega, by simp [i3], l4, l5⟩
        | true =>
          obtain ⟨v4, p6, q6, f5, g9, g10⟩ := float_ok hb p5 q5 (by omega) (by omega)
          have hk2 : k < (se.set k (fop .quo .f32 (fofi .f32 (IntKind.wrap .i64 (v - 8))) (some 1082130432))).length := by simpa using hke
          simp only [if_true, f5, some_bind', List.getElem?_eq_getElem hk2, setF_nat hk2, one_more (show k ≤ 1000000000 by omega)]
          exact ⟨(p6, q6, _, sx', sy'), rfl, by simp only; omega, by simp only; omega, by simp [i3], l4, l5⟩) (fun s hI => by
      show spec_l02DrawField.s0 a ((w * h : Nat) : Int) (kd, p1, q1) ((w * h : Nat) : Int) s.1 s.2.1 s.2.2.1 s.2.2.2.1 s.2.2.2.2 = _
      unfold spec_l02DrawField.s0
      rw [if_neg (by simp)]
      simp)
  obtain ⟨s, A1, i1, i2, i3, i4, i5⟩ := A
  simp only [Int.ofNat_zero] at A1
  rw [A1]
  obtain ⟨vv, h1, h2⟩ := is_eq w h b l m (by omega) (by omega)
  rw [hv] at h2
  cases h2
  rw [h1]
  simp only [some_bind', Bool.not_true, Bool.false_eq_true, if_false]
  cases b with
  | true =>
    simp only [if_true, some_bind']
    exact ⟨_, _, _, rfl, i3, i4, i5, isField_of hv w1 w2 k1 k2 i3 i4 i5 (.inl rfl)⟩
  | false =>
    simp only [Bool.false_eq_true, if_false]
    have B := loop_ex (S := List (Option Nat) × List (Option Nat) × List (Option Nat)) (step := fun (s : (Int × (List (Option Nat)) × (List (Option Nat)) × (List (Option Nat)))) => spec_l02DrawField.s1 w h false l m ((w * h : Nat) : Int) s.1 s.2.1 s.2.2.1 s.2.2.2)
      (fun s k => ((k : Int), s.1, s.2.1, s.2.2)) (fun k s => s.1.length = w * h ∧ s.2.1.length = w * h ∧ s.2.2.length = w * h ∧ ∀ j, j < k → rimOK w h s.1 s.2.1 s.2.2 j) (w * h) (fun s => (((w * h : Nat) : Int), false, s.1, s.2.1, s.2.2)) (s.2.2.1, s.2.2.2.1, s.2.2.2.2) ⟨i3, i4, i5, fun j hj => absurd hj (by omega)⟩ (fun k t hk hI => by
        obtain ⟨te, tx, ty⟩ := t
        obtain ⟨j1, j2, j3, j4⟩ := hI
        simp only at j1 j2 j3 j4
        show ∃ s', spec_l02DrawField.s1 w h false l m ((w * h : Nat) : Int) (k : Int) te tx ty = _ ∧ _
        unfold spec_l02DrawField.s1
        have n1 : ¬ ((w : Int) = 0) := by omega
        have hke : k < te.length := by omega
        have hkx : k < tx.length := by omega
        have hky : k < ty.length := by omega
        have xl : k % w < w := Nat.mod_lt _ (by omega)
        have yl : k / w < h := Nat.div_lt_of_lt_mul hk
        rw [if_pos (decide_eq_true (Int.ofNat_lt.2 hk))]
        simp only [if_neg n1, tmod_nat, div_eq hk hn, border_eq', some_bind', idx_nat, List.getElem?_eq_getElem hke, List.getElem?_eq_getElem hkx, List.getElem?_eq_getElem hky, setF_nat hke, setF_nat hkx, setF_nat hky, ite_some, one_more (show k ≤ 1000000000 by omega), wrap_small (show (-9223372036854775808 : Int) ≤ (w : Int) - 1 by omega) (by omega), wrap_small (show (-9223372036854775808 : Int) ≤ (h : Int) - 1 by omega) (by omega)]
        generalize hE : (!false && (((k % w : Nat) : Int) == 0 || (((k % w : Nat) : Int) == (w : Int) - 1 || (((k / w : Nat) : Int) == 0 || ((k / w : Nat) : Int) == (h : Int) - 1)))) = cE
        generalize hX : (((k / w : Nat) : Int) == (h : Int) - 1) = cX
        generalize hY : (((k % w : Nat) : Int) == (w : Int) - 1) = cY
        refine ⟨(if cE = true then te.set k (some 0) else te, if cX = true then tx.set k (some 0) else tx, if cY = true then ty.set k (some 0) else ty), rfl, ?_, ?_, ?_, fun j hj => ?_⟩
        · simp only; split <;> simp [j1]
        · simp only; split <;> simp [j2]
        · simp only; split <;> simp [j3]
        · unfold rimOK
          simp only
          rw [get_set _ hke, get_set _ hkx, get_set _ hky]
          by_cases hjk : j = k
          · subst hjk
            refine ⟨fun hc => ?_, fun hc => ?_, fun hc => ?_⟩
            · rw [if_pos ⟨by rw [← hE]; simp; omega, rfl⟩]
            · rw [if_pos ⟨by rw [← hX]; simp; omega, rfl⟩]
            · rw [if_pos ⟨by rw [← hY]; simp; omega, rfl⟩]
          · rw [if_neg (fun hh => hjk hh.2), if_neg (fun hh => hjk hh.2), if_neg (fun hh => hjk hh.2)]
            exact j4 j (by omega)) (fun t hI => by
        show spec_l02DrawField.s1 w h false l m ((w * h : Nat) : Int) ((w * h : Nat) : Int) t.1 t.2.1 t.2.2 = _
        unfold spec_l02DrawField.s1
        rw [if_neg (by simp)]
        simp)
    obtain ⟨t, B1, j1, j2, j3, j4⟩ := B
    simp only [Int.ofNat_zero] at B1
    rw [B1]
    simp only [some_bind']
    refine ⟨_, _, _, rfl, j1, j2, j3, isField_of hv w1 w2 k1 k2 j1 j2 j3 (.inr fun i hi => ?_)⟩
    obtain ⟨c1, c2, c3⟩ := j4 i hi
    have xl : i % w < w := Nat.mod_lt _ (by omega)
    have yl : i / w < h := Nat.div_lt_of_lt_mul hi
    have z : fcmp .neq .f32 (some 0) (some 0) = false := by decide
    unfold cellBad
    rw [wrap_small (n := (w : Int) - 1) (by omega) (by omega), wrap_small (n := (h : Int) - 1) (by omega) (by omega)]
    have d1 : ((((i % w : Nat) : Int) == 0 || (((i % w : Nat) : Int) == (w : Int) - 1 || (((i / w : Nat) : Int) == 0 || ((i / w : Nat) : Int) == (h : Int) - 1))) && fcmp .neq .f32 (t.1[i]?.getD none) (some 0)) = false := by
      by_cases hc : i % w = 0 ∨ i % w = w - 1 ∨ i / w = 0 ∨ i / w = h - 1
      · rw [c1 hc]; simp [z]
      · have : (((i % w : Nat) : Int) == 0 || (((i % w : Nat) : Int) == (w : Int) - 1 || (((i / w : Nat) : Int) == 0 || ((i / w : Nat) : Int) == (h : Int) - 1))) = false := by
          simp only [Bool.or_eq_false_iff, beq_eq_false_iff_ne]; omega
        rw [this]; rfl
    have d2 : ((((i / w : Nat) : Int) == (h : Int) - 1) && fcmp .neq .f32 (t.2.1[i]?.getD none) (some 0)) = false := by
      by_cases hc : i / w = h - 1
      · rw [c2 hc]; simp [z]
      · have : (((i / w : Nat) : Int) == (h : Int) - 1) = false := by rw [beq_eq_false_iff_ne]; omega
        rw [this]; rfl
    have d3 : ((((i % w : Nat) : Int) == (w : Int) - 1) && fcmp .neq .f32 (t.2.2[i]?.getD none) (some 0)) = false := by
      by_cases hc : i % w = w - 1
      · rw [c3 hc]; simp [z]
      · have : (((i % w : Nat) : Int) == (w : Int) - 1) = false := by rw [beq_eq_false_iff_ne]; omega
        rw [this]; rfl
    rw [d2, d3]
    simp only [Bool.not_false, Bool.true_and, Bool.or_false]
    exact d1
end Go.H
