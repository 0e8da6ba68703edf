/- Sheets and fields that are drawn: they are valid. -/
import Derived.Test.YtjlnfficehomhaaGreatDoorGDraw
import Derived.Test.YtjlnfficehomhaaGreatDoorPSrc2
import Derived.Test.YtjlnfficehomhaaGreatDoorPCells
import Derived.Test.YtjlnfficehomhaaGreatDoorPFieldI
set_option linter.unusedVariables false
namespace Go.H
open Go Ieee

/-- what a drawn speed is, and a drawn loss -/
def speedV (v : Option Nat) : Prop := ∃ c : Nat, c < 9 ∧ v = fop .quo .f32 (fofi .f32 (c : Int)) (some 1098907648)
def lossV (v : Option Nat) : Prop := ∃ c : Nat, c < 9 ∧ v = fop .quo .f32 (fofi .f32 (c : Int)) (some 1090519040)
theorem speed_half : fop .quo .f32 (fofi .f32 ((8 : Nat) : Int)) (some 1098907648) = some 1056964608 := by decide +kernel
theorem loss_none : fop .quo .f32 (fofi .f32 ((0 : Nat) : Int)) (some 1090519040) = some 0 := by decide +kernel
theorem speed_ok : ∀ c : Nat, c < 9 → okTo 1056964608 (fop .quo .f32 (fofi .f32 (c : Int)) (some 1098907648)) = true := by decide +kernel
theorem loss_ok : ∀ c : Nat, c < 9 → okTo 1065353216 (fop .quo .f32 (fofi .f32 (c : Int)) (some 1090519040)) = true := by decide +kernel

theorem sheet_draw {a : List Int} (hb : ∀ x ∈ a, 0 ≤ x ∧ x ≤ 255) : ∃ (w h : Nat) (b : Bool) (l m : List (Option Nat)), spec_B10Sheet a = some ((w : Int), (h : Int), b, l, m) ∧ 3 ≤ w ∧ w ≤ 6 ∧ 3 ≤ h ∧ h ≤ 6 ∧ l.length = w * h ∧ m.length = w * h ∧ (∀ v ∈ l, speedV v) ∧ ∀ v ∈ m, lossV v := by
  unfold spec_B10Sheet spec_l00From spec_l02DrawOk
  obtain ⟨r1, p1, q1, e1, a1, a2, a3, a4⟩ := pick_ok hb 0 0 4 (by omega) (by omega)
  obtain ⟨o2, p2, q2, e2, b1, b2⟩ := one_ok hb p1 q1 2 (by omega) (by omega)
  obtain ⟨r3, p3, q3, e3, c1, c2, c3, c4⟩ := pick_ok hb p2 q2 4 (by omega) (by omega)
  obtain ⟨o4, p4, q4, e4, d1, d2⟩ := one_ok hb p3 q3 2 (by omega) (by omega)
  simp only [some_bind', e1, e2, e3, e4]
  obtain ⟨u, rfl⟩ := Int.eq_ofNat_of_zero_le a1
  obtain ⟨v, rfl⟩ := Int.eq_ofNat_of_zero_le c1
  have hu : IntKind.wrap .i64 (3 + (u : Int)) = ((3 + u : Nat) : Int) := by rw [wrap_small (by omega) (by omega)]; rfl
  have hv : IntKind.wrap .i64 (3 + (v : Int)) = ((3 + v : Nat) : Int) := by rw [wrap_small (by omega) (by omega)]; rfl
  have hn := area_le (show 3 + u ≤ 16 by omega) (show 3 + v ≤ 16 by omega)
  have A := loop_ex (S := Int × Int × List (Option Nat) × List (Option Nat)) (step := fun (s : (Int × Int × Int × (List (Option Nat)) × (List (Option Nat)))) => spec_l02DrawOk.s0 a ((u : Int), p1, q1) ((v : Int), p3, q3) (o4, p4, q4) s.1 s.2.1 s.2.2.1 s.2.2.2.1 s.2.2.2.2)
    (fun s k => ((k : Int), s.1, s.2.1, s.2.2.1, s.2.2.2)) (fun k s => 0 ≤ s.1 ∧ s.1 ≤ 100 + 6 * (k : Int) ∧ s.2.2.1.length = k ∧ s.2.2.2.length = k ∧ (∀ z ∈ s.2.2.1, speedV z) ∧ ∀ z ∈ s.2.2.2, lossV z) ((3 + u) * (3 + v)) (fun s => ((((3 + u) * (3 + v) : Nat) : Int), false, s.1, s.2.1, s.2.2.1, s.2.2.2)) (p4, q4, [], []) ⟨by simp only; omega, by simp only; omega, rfl, rfl, by simp, by simp⟩ (fun k s hk hI => by
      obtain ⟨i1, i2, i3, i4, i5, i6⟩ := hI
      have step : ∃ (sp ls : Option Nat) (p' q' : Int), (if (!o4) = true then ((spec_l00Src_pick a s.1 s.2.1 9).bind fun (x20 : (Int × Int × Int)) => ((spec_l00Src_one a x20.2.1 x20.2.2 3).bind fun (x21 : (Bool × Int × Int)) => (((if x21.1 = true then ((spec_l00Src_pick a x21.2.1 x21.2.2 9).bind fun (x25 : (Int × Int × Int)) => some (fop .quo .f32 (fofi .f32 x25.1) (some 1090519040), x25.2.1, x25.2.2)) else some ((some 0), x21.2.1, x21.2.2)) : Option ((Option Nat) × Int × Int)).bind fun (⟨x22, x23, x24⟩ : ((Option Nat) × Int × Int)) => some (fop .quo .f32 (fofi .f32 x20.1) (some 1098907648), x22, x23, x24)))) else some ((some 1056964608), (some 0), s.1, s.2.1)) = some (sp, ls, p', q') ∧ speedV sp ∧ lossV ls ∧ s.1 ≤ p' ∧ p' ≤ s.1 + 6 := by
        cases o4 with
        | true =>
          exact ⟨_, _, _, _, rfl, ⟨8, by omega, speed_half.symm⟩, ⟨0, by omega, loss_none.symm⟩, by omega, by omega⟩
        | false =>
          obtain ⟨x, y1, z1, f1, g1, g2, g3, g4⟩ := pick_ok hb s.1 s.2.1 9 i1 (by omega)
          obtain ⟨o, y2, z2, f2, g5, g6⟩ := one_ok hb y1 z1 3 (by omega) (by omega)
          obtain ⟨x, rfl⟩ := Int.eq_ofNat_of_zero_le g1
          simp only [Bool.not_false, if_true, f1, some_bind', f2]
          cases o with
          | false =>
            simp only [Bool.false_eq_true, if_false, some_bind']
            exact ⟨_, _, _, _, rfl, ⟨x, by omega, rfl⟩, ⟨0, by omega, loss_none.symm⟩, by omega, by omega⟩
          | true =>
            obtain ⟨x', y3, z3, f3, g7, g8, g9, g10⟩ := pick_ok hb y2 z2 9 (by omega) (by omega)
            obtain ⟨x', rfl⟩ := Int.eq_ofNat_of_zero_le g7
            simp only [if_true, some_bind', f3]
            exact ⟨_, _, _, _, rfl, ⟨x, by omega, rfl⟩, ⟨x', by omega, rfl⟩, by omega, by omega⟩
      obtain ⟨sp, ls, p', q', e, j1, j2, j3, j4⟩ := step
      refine ⟨(p', q', s.2.2.1 ++ [sp], s.2.2.2 ++ [ls]), ?_, by simp only; omega, by simp only; omega, by simp [i3], by simp [i4], ?_, ?_⟩
      · show spec_l02DrawOk.s0 a ((u : Int), p1, q1) ((v : Int), p3, q3) (o4, p4, q4) (k : Int) s.1 s.2.1 s.2.2.1 s.2.2.2 = _
        unfold spec_l02DrawOk.s0
        simp only [hu, hv, area_eq (show 3 + u ≤ 16 by omega) (show 3 + v ≤ 16 by omega)]
        rw [if_pos (decide_eq_true (Int.ofNat_lt.2 hk))]
        rw [e]
        simp only [some_bind']
        rw [if_pos (by simp; omega), if_pos (by simp; omega), one_more (by omega)]
      · intro z hz
        rcases List.mem_append.1 hz with hz | hz
        · exact i5 z hz
        · rw [List.mem_singleton.1 hz]; exact j1
      · intro z hz
        rcases List.mem_append.1 hz with hz | hz
        · exact i6 z hz
        · rw [List.mem_singleton.1 hz]; exact j2) (fun s hI => by
      show spec_l02DrawOk.s0 a ((u : Int), p1, q1) ((v : Int), p3, q3) (o4, p4, q4) (((3 + u) * (3 + v) : Nat) : Int) s.1 s.2.1 s.2.2.1 s.2.2.2 = _
      unfold spec_l02DrawOk.s0
      simp only [hu, hv, area_eq (show 3 + u ≤ 16 by omega) (show 3 + v ≤ 16 by omega)]
      rw [if_neg (by simp)]
      simp)
  obtain ⟨s, A1, i1, i2, i3, i4, i5, i6⟩ := A
  simp only [Int.ofNat_zero] at A1
  rw [A1]
  simp only [some_bind', hu, hv]
  exact ⟨3 + u, 3 + v, o2, s.2.2.1, s.2.2.2, rfl, by omega, by omega, by omega, by omega, i3, i4, i5, i6⟩

theorem all_of {l : List (Option Nat)} {c : Nat} (h : ∀ v ∈ l, okTo c v = true) : l.all (okTo c) = true := List.all_eq_true.2 h

/-- such a sheet is valid -/
theorem draw_valid {w h : Nat} {b : Bool} {l m : List (Option Nat)} (w1 : 3 ≤ w) (w2 : w ≤ 16) (k1 : 3 ≤ h) (k2 : h ≤ 16) (ll : l.length = w * h) (lm : m.length = w * h) (hl : ∀ v ∈ l, speedV v) (hm : ∀ v ∈ m, lossV v) : impl_ValidSheet w h b l m = some true := by
  have hn := area_le w2 k2
  unfold impl_ValidSheet
  rw [between_eq l _ (by omega), between_eq m _ (by omega), all_of (fun v hv => by obtain ⟨c, hc, rfl⟩ := hl v hv; exact speed_ok c hc), all_of (fun v hv => by obtain ⟨c, hc, rfl⟩ := hm v hv; exact loss_ok c hc)]
  simp only [(in_eq _ _ _).2, area_eq w2 k2, some_bind', ll, lm]
  have c1 : decide ((w : Int) ≥ 3) = true := by simp; omega
  have c2 : decide ((w : Int) ≤ 16) = true := by simp; omega
  have c3 : decide ((h : Int) ≥ 3) = true := by simp; omega
  have c4 : decide ((h : Int) ≤ 16) = true := by simp; omega
  have c5 : decide (((w * h : Nat) : Int) > 256) = false := by simp; omega
  simp only [c1, c2, c3, c4, c5, Bool.and_self, Bool.not_true, Bool.false_eq_true, if_false, some_bind', beq_self_eq_true, if_true]

/-- what is a field of a valid sheet -/
theorem isField_of {w h : Nat} {b : Bool} {l m e x y : List (Option Nat)} (hv : impl_ValidSheet w h b l m = some true) (w1 : 3 ≤ w) (w2 : w ≤ 16) (k1 : 3 ≤ h) (k2 : h ≤ 16) (he : e.length = w * h) (hx : x.length = w * h) (hy : y.length = w * h)
    (hc : b = true ∨ ∀ i, i < w * h → cellBad w h false (e[i]?.getD none) (x[i]?.getD none) (y[i]?.getD none) ((i % w : Nat) : Int) ((i / w : Nat) : Int) = false) : impl_IsField w h b l m e x y = some true := by
  have hn := area_le w2 k2
  unfold impl_IsField
  have q : ∀ n : Nat, n = w * h → ((n : Int) != ((w * h : Nat) : Int)) = false := by intro n hn; simp [hn]
  rw [hv]
  simp only [area_eq w2 k2, q _ he, q _ hx, q _ hy, Bool.not_true, Bool.false_eq_true, if_false, some_bind', ite_some]
  cases b with
  | true => rfl
  | false =>
    have A := loop_all' (step := fun (s : (Bool × Int)) => impl_IsField.s0 w h false l m e x y s.1 s.2) (n := w * h) (fun i => cellBad w h false (e[i]?.getD none) (x[i]?.getD none) (y[i]?.getD none) ((i % w : Nat) : Int) ((i / w : Nat) : Int)) false (false, ((w * h : Nat) : Int), false) (fun i hi => field_step w h false l m e x y (by omega) (by omega) (by omega) he hx hy i hi false) (by
      show impl_IsField.s0 w h false l m e x y false ((w * h : Nat) : Int) = _
      unfold impl_IsField.s0
      rw [area_eq w2 k2, if_neg (by simp)]
      simp)
    have hno : (List.range (w * h)).any (fun i => cellBad w h false (e[i]?.getD none) (x[i]?.getD none) (y[i]?.getD none) ((i % w : Nat) : Int) ((i / w : Nat) : Int)) = false := by
      rw [List.any_eq_false]
      intro i hi
      rcases hc with hc | hc
      · cases hc
      · rw [hc i (List.mem_range.1 hi)]; simp
    rw [hno] at A
    simp only [Bool.false_eq_true, if_false] at A
    rw [A]
    rfl
end Go.H
