/- Fields: both texts. -/
import Derived.Test.YtjlnfficehomhaaDoorPFieldI
set_option linter.unusedVariables false
namespace Go.H
open Go Ieee

section
variable (w h : Nat) (wr : Bool) (l m e x y : List (Option Nat)) (hw : 0 < w) (hw2 : w ≤ 16) (hh : h ≤ 16) (he : e.length = w * h) (hx : x.length = w * h) (hy : y.length = w * h)
include hw hw2 hh he hx hy

theorem fits_step (cx cy : Nat) (hx' : cx < w) (hy' : cy < h) (b : Bool) : spec_l02Fits.s1 w h wr l m e x y cy b cx = some (if cellBad w h wr (e[cx + w * cy]?.getD none) (x[cx + w * cy]?.getD none) (y[cx + w * cy]?.getD none) (cx : Int) (cy : Int) then .inr (.inr false) else .inl (b, ((cx + 1 : Nat) : Int))) := by
  have hn : w * h ≤ 256 := Nat.le_trans (Nat.mul_le_mul hw2 hh) (by decide)
  have hlt : cx + w * cy < w * h := by
    calc cx + w * cy < w + w * cy := by omega
      _ = w * (cy + 1) := by rw [Nat.mul_succ, Nat.add_comm]
      _ ≤ w * h := Nat.mul_le_mul_left _ hy'
  have hi : IntKind.wrap .i64 ((cx : Int) + IntKind.wrap .i64 ((w : Int) * (cy : Int))) = ((cx + w * cy : Nat) : Int) := by
    rw [show (w : Int) * (cy : Int) = ((w * cy : Nat) : Int) by simp, wrap_small (n := ((w * cy : Nat) : Int)) (by omega) (by omega), show (cx : Int) + ((w * cy : Nat) : Int) = ((cx + w * cy : Nat) : Int) by simp]
    exact wrap_small (by omega) (by omega)
  unfold spec_l02Fits.s1
  rw [if_pos (by simp; omega), border_eq']
  simp only [hi, idx_nat, List.getElem?_eq_getElem (show cx + w * cy < e.length by omega), List.getElem?_eq_getElem (show cx + w * cy < x.length by omega), List.getElem?_eq_getElem (show cx + w * cy < y.length by omega), some_bind', ite_some, Option.getD_some, cell_bool]
  rw [wrap_small (n := (cx : Int) + 1) (by omega) (by omega)]
  rfl
end

/-- the tests of both texts -/
theorem field_eq (a0 a1 : Int) (a2 : Bool) (a3 a4 e x y : List (Option Nat)) (h3 : a3.length ≤ 1000000000) (h4 : a4.length ≤ 1000000000) :
    ∃ b, spec_l03Both a0 a1 a2 a3 a4 e x y = some b ∧ impl_IsField a0 a1 a2 a3 a4 e x y = some b := by
  unfold spec_l03Both impl_IsField spec_l02Fits
  obtain ⟨v, h1, h2⟩ := is_eq a0 a1 a2 a3 a4 h3 h4
  rw [h1, h2]
  cases v with
  | false => exact ⟨false, rfl, rfl⟩
  | true =>
    obtain ⟨w, h, rfl, rfl, p1, p2, p3, p4, p5, p6⟩ := valid_has h2
    have hn : w * h ≤ 256 := Nat.le_trans (Nat.mul_le_mul (show w ≤ 16 by omega) (show h ≤ 16 by omega)) (by decide)
    have hmul : IntKind.wrap .i64 ((w : Int) * (h : Int)) = ((w * h : Nat) : Int) := by
      rw [show (w : Int) * (h : Int) = ((w * h : Nat) : Int) by simp]
      exact wrap_small (by omega) (by omega)
    simp only [hmul, Bool.not_true, Bool.false_eq_true, if_false, some_bind', if_true, ite_some]
    by_cases he : e.length = w * h
    · by_cases hx : x.length = w * h
      · by_cases hy : y.length = w * h
        · have q : ∀ n : Nat, n = w * h → ((n : Int) != ((w * h : Nat) : Int)) = false := by intro n hn; simp [hn]
          simp only [q _ he, q _ hx, q _ hy, Bool.false_eq_true, if_false, bind_id']
          cases a2 with
          | true =>
            refine ⟨true, ?_, rfl⟩
            have : loopF (fun (s : (Bool × Int)) => spec_l02Fits.s0 w h true a3 a4 e x y s.1 s.2) (false, 0) = some (.inl (false, 0, false)) := by
              apply loopF_stop
              show spec_l02Fits.s0 w h true a3 a4 e x y false 0 = _
              unfold spec_l02Fits.s0
              simp
            rw [this]; rfl
          | false =>
            let bad := fun cx cy : Nat => cellBad w h false (e[cx + w * cy]?.getD none) (x[cx + w * cy]?.getD none) (y[cx + w * cy]?.getD none) (cx : Int) (cy : Int)
            have A := loop_all' (step := fun (s : (Bool × Int)) => impl_IsField.s0 w h false a3 a4 e x y s.1 s.2) (n := w * h) (fun i => bad (i % w) (i / w)) false (false, ((w * h : Nat) : Int), false) (fun i hi => by
                have := field_step w h false a3 a4 e x y (by omega) (by omega) (by omega) he hx hy i hi false
                have e1 : i % w + w * (i / w) = i := Nat.mod_add_div i w
                simp only [bad, e1]
                exact this) (by
                show impl_IsField.s0 w h false a3 a4 e x y false ((w * h : Nat) : Int) = _
                unfold impl_IsField.s0
                rw [hmul, if_neg (by simp)]
                simp)
            have I : ∀ cy, cy < h → loopF (fun (s : (Bool × Int)) => spec_l02Fits.s1 w h false a3 a4 e x y cy s.1 s.2) (false, 0) = some (if (List.range w).any (fun cx => bad cx cy) then .inr false else .inl (false, (w : Int), false)) := fun cy hcy =>
              loop_all' (step := fun (s : (Bool × Int)) => spec_l02Fits.s1 w h false a3 a4 e x y cy s.1 s.2) (n := w) (fun cx => bad cx cy) false (false, (w : Int), false) (fun cx hcx => fits_step w h false a3 a4 e x y (by omega) (by omega) (by omega) he hx hy cx cy hcx hcy false) (by
                show spec_l02Fits.s1 w h false a3 a4 e x y cy false (w : Int) = _
                unfold spec_l02Fits.s1
                rw [if_neg (by simp)]
                simp)
            have B := loop_all' (step := fun (s : (Bool × Int)) => spec_l02Fits.s0 w h false a3 a4 e x y s.1 s.2) (n := h) (fun cy => (List.range w).any fun cx => bad cx cy) false (false, (h : Int), false) (fun cy hcy => by
                show spec_l02Fits.s0 w h false a3 a4 e x y false (cy : Int) = _
                unfold spec_l02Fits.s0
                rw [if_pos (by simp; omega)]
                simp only [Bool.not_false, some_bind', if_true]
                rw [I cy hcy]
                cases (List.range w).any (fun cx => bad cx cy) with
                | true => rfl
                | false =>
                  simp only [Bool.false_eq_true, if_false, some_bind']
                  rw [wrap_small (by omega) (by omega)]
                  rfl) (by
                show spec_l02Fits.s0 w h false a3 a4 e x y false (h : Int) = _
                unfold spec_l02Fits.s0
                rw [if_neg (by simp)]
                simp)
            rw [any_cells w h (by omega) bad] at B
            rw [A, B]
            cases (List.range (w * h)).any (fun i => bad (i % w) (i / w)) with
            | true => exact ⟨false, rfl, rfl⟩
            | false => exact ⟨true, rfl, rfl⟩
        · have q : ((y.length : Int) != ((w * h : Nat) : Int)) = true := by simpa using (show ¬ (y.length : Int) = ((w * h : Nat) : Int) by omega)
          refine ⟨false, ?_, ?_⟩ <;> simp only [q] <;> by_cases g1 : ((e.length : Int) != ((w * h : Nat) : Int)) = true <;> by_cases g2 : ((x.length : Int) != ((w * h : Nat) : Int)) = true <;> simp
      · have q : ((x.length : Int) != ((w * h : Nat) : Int)) = true := by simpa using (show ¬ (x.length : Int) = ((w * h : Nat) : Int) by omega)
        refine ⟨false, ?_, ?_⟩ <;> simp only [q] <;> by_cases g1 : ((e.length : Int) != ((w * h : Nat) : Int)) = true <;> simp
    · have q : ((e.length : Int) != ((w * h : Nat) : Int)) = true := by simpa using (show ¬ (e.length : Int) = ((w * h : Nat) : Int) by omega)
      exact ⟨false, by simp only [q, if_true]; rfl, by simp only [q, if_true]⟩
end Go.H
