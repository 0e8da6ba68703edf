/- Fields: both texts' tests are the same. -/
import Derived.Test.YtohfgnjmgipehaaGField
import Derived.Test.YtohfgnjmgipehaaPFold
set_option linter.unusedVariables false
namespace Go.H
open Go Ieee

/-- a loop over places that asks the same of each; what it leaves is told -/
theorem loop_all' {step : Bool × Int → Option ((Bool × Int) ⊕ ((Bool × Int × Bool) ⊕ Bool))} {n : Nat} (bad : Nat → Bool) (b : Bool) (e : Bool × Int × Bool)
    (hs : ∀ k, k < n → step (b, (k : Int)) = some (if bad k then .inr (.inr false) else .inl (b, ((k + 1 : Nat) : Int)))) (he : step (b, (n : Int)) = some (.inr (.inl e))) :
    loopF step (b, 0) = some (if (List.range n).any bad then .inr false else .inl e) := by
  have key : ∀ m, m ≤ n → (∀ k, k < n - m → bad k = false) → loopF step (b, ((n - m : Nat) : Int)) = some (if (List.range n).any bad then .inr false else .inl e) := by
    intro m
    induction m with
    | zero =>
      intro _ hb
      have : (List.range n).any bad = false := by
        rw [List.any_eq_false]
        intro k hk
        have := hb k (by simpa using hk)
        simp [this]
      rw [this]
      exact loopF_stop he
    | succ m ih =>
      intro hm hb
      have h1 := hs (n - (m + 1)) (by omega)
      cases hk : bad (n - (m + 1)) with
      | true =>
        rw [hk] at h1
        have : (List.range n).any bad = true := List.any_eq_true.2 ⟨_, List.mem_range.2 (by omega), hk⟩
        rw [this]
        exact loopF_stop h1
      | false =>
        rw [hk] at h1
        have e1 : n - (m + 1) + 1 = n - m := by omega
        rw [e1] at h1
        rw [loopF_next h1]
        exact ih (by omega) (fun k hk' => by
          by_cases h : k = n - (m + 1)
          · rw [h]; exact hk
          · exact hb k (by omega))
  have := key n (Nat.le_refl _) (fun k hk => by omega)
  rw [Nat.sub_self] at this
  exact this

/-- what is wrong at a cell -/
def cellBad (w h : Int) (wr : Bool) (e x y : Option Nat) (cx cy : Int) : Bool :=
  ((!wr && (cx == 0 || (cx == IntKind.wrap .i64 (w - 1) || (cy == 0 || cy == IntKind.wrap .i64 (h - 1))))) && fcmp .neq .f32 e (some 0)) || ((cy == IntKind.wrap .i64 (h - 1) && fcmp .neq .f32 x (some 0)) || (cx == IntKind.wrap .i64 (w - 1) && fcmp .neq .f32 y (some 0)))

theorem cell_bool : ∀ b e cy x cx y : Bool, (if b = true then (if e = true then true else if cy = true then (if x = true then true else if cx = true then y else false) else if cx = true then y else false) else if cy = true then (if x = true then true else if cx = true then y else false) else if cx = true then y else false) = ((b && e) || ((cy && x) || (cx && y))) := by decide
theorem border_bool : ∀ w a b c d : Bool, (if (!w) = true then (if a = true then true else if b = true then true else if c = true then true else d) else false) = (!w && (a || (b || (c || d)))) := by decide

theorem border_eq (w h : Int) (wr : Bool) (l m : List (Option Nat)) (cx cy : Int) : impl_Sheet_isBorder w h wr l m cx cy = some (!wr && (cx == 0 || (cx == IntKind.wrap .i64 (w - 1) || (cy == 0 || cy == IntKind.wrap .i64 (h - 1))))) := by
  unfold impl_Sheet_isBorder
  simp only [ite_some, some_bind', border_bool]
theorem border_eq' (w h : Int) (wr : Bool) (l m : List (Option Nat)) (cx cy : Int) : spec_l02Border w h wr l m cx cy = some (!wr && (cx == 0 || (cx == IntKind.wrap .i64 (w - 1) || (cy == 0 || cy == IntKind.wrap .i64 (h - 1))))) := by
  unfold spec_l02Border
  simp only [ite_some, some_bind', border_bool]

theorem tdiv_nat (i w : Nat) : Int.tdiv (i : Int) (w : Int) = ((i / w : Nat) : Int) := rfl
theorem tmod_nat (i w : Nat) : Int.tmod (i : Int) (w : Int) = ((i % w : Nat) : Int) := rfl

/-- all cells, by rows or one after another -/
theorem any_cells (w h : Nat) (hw : 0 < w) (bad : Nat → Nat → Bool) : ((List.range h).any fun y => (List.range w).any fun x => bad x y) = (List.range (w * h)).any fun i => bad (i % w) (i / w) := by
  rw [Bool.eq_iff_iff, List.any_eq_true, List.any_eq_true]
  constructor
  · rintro ⟨y, hy, h1⟩
    obtain ⟨x, hx, h2⟩ := List.any_eq_true.1 h1
    have hy := List.mem_range.1 hy
    have hx := List.mem_range.1 hx
    refine ⟨x + w * y, List.mem_range.2 ?_, ?_⟩
    · calc x + w * y < w + w * y := by omega
        _ = w * (y + 1) := by rw [Nat.mul_succ, Nat.add_comm]
        _ ≤ w * h := Nat.mul_le_mul_left _ hy
    · have e1 : (x + w * y) % w = x := by rw [Nat.add_mul_mod_self_left, Nat.mod_eq_of_lt hx]
      have e2 : (x + w * y) / w = y := by rw [Nat.add_mul_div_left _ _ hw, Nat.div_eq_of_lt hx, Nat.zero_add]
      rw [e1, e2]; exact h2
  · rintro ⟨i, hi, h1⟩
    have hi := List.mem_range.1 hi
    refine ⟨i / w, List.mem_range.2 (Nat.div_lt_of_lt_mul hi), List.any_eq_true.2 ⟨i % w, List.mem_range.2 (Nat.mod_lt _ hw), h1⟩⟩

section
variable (w h : Nat) (wr : Bool) (l m e x y : List (Option Nat)) (hw : 0 < w) (hw2 : w ≤ 16) (hh : h ≤ 16) (he : e.length = w * h) (hx : x.length = w * h) (hy : y.length = w * h)
include hw hw2 hh he hx hy

theorem field_step (i : Nat) (hi : i < w * h) (b : Bool) : impl_IsField.s0 w h wr l m e x y b i = some (if cellBad w h wr (e[i]?.getD none) (x[i]?.getD none) (y[i]?.getD none) ((i % w : Nat) : Int) ((i / w : Nat) : Int) then .inr (.inr false) else .inl (b, ((i + 1 : Nat) : Int))) := by
  have hn : w * h ≤ 256 := Nat.le_trans (Nat.mul_le_mul hw2 hh) (by decide)
  have hmul : IntKind.wrap .i64 ((w : Int) * (h : Int)) = ((w * h : Nat) : Int) := by
    rw [show (w : Int) * (h : Int) = ((w * h : Nat) : Int) by simp]
    exact wrap_small (by omega) (by omega)
  have hd : IntKind.wrap .i64 (((i / w : Nat) : Int)) = ((i / w : Nat) : Int) := div_eq hi hn
  unfold impl_IsField.s0
  rw [if_pos (by rw [hmul]; simp; omega), if_neg (by omega), if_neg (by omega), tdiv_nat, tmod_nat, hd, border_eq]
  simp only [idx_nat, List.getElem?_eq_getElem (show i < e.length by omega), List.getElem?_eq_getElem (show i < x.length by omega), List.getElem?_eq_getElem (show i < y.length by omega), some_bind', ite_some, Option.getD_some, cell_bool]
  rw [wrap_small (n := (i : Int) + 1) (by omega) (by omega)]
  rfl

theorem fits_step (cx cy : Nat) (hx' : cx < w) (hy' : cy < h) (b : Bool) : spec_l02Fits.s1 w h wr l m e x y cy b cx = some (if cellBad w h wr (e[cx + w * cy]?.getD none) (x[cx + w * cy]?.getD none) (y[cx + w * cy]?.getD none) (cx : Int) (cy : Int) then .inr (.inr false) else .inl (b, ((cx + 1 : Nat) : Int))) := by
  have hn : w * h ≤ 256 := Nat.le_trans (Nat.mul_le_mul hw2 hh) (by decide)
  have hlt : cx + w * cy < w * h := by
    calc cx + w * cy < w + w * cy := by omega
      _ = w * (cy + 1) := by rw [Nat.mul_succ, Nat.add_comm]
      _ ≤ w * h := Nat.mul_le_mul_left _ hy'
  have hi : IntKind.wrap .i64 ((cx : Int) + IntKind.wrap .i64 ((w : Int) * (cy : Int))) = ((cx + w * cy : Nat) : Int) := by
    rw [show (w : Int) * (cy : Int) = ((w * cy : Nat) : Int) by simp, wrap_small (n := ((w * cy : Nat) : Int)) (by omega) (by omega), show (cx : Int) + ((w * cy : Nat) : Int) = ((cx + w * cy : Nat) : Int) by simp]
    exact wrap_small (by omega) (by omega)
  unfold spec_l02Fits.s1
  rw [if_pos (by simp; omega), border_eq']
  simp only [hi, idx_nat, List.getElem?_eq_getElem (show cx + w * cy < e.length by omega), List.getElem?_eq_getElem (show cx + w * cy < x.length by omega), List.getElem?_eq_getElem (show cx + w * cy < y.length by omega), some_bind', ite_some, Option.getD_some, cell_bool]
  rw [wrap_small (n := (cx : Int) + 1) (by omega) (by omega)]
  rfl
end

/-- the tests of both texts -/
theorem field_eq (a0 a1 : Int) (a2 : Bool) (a3 a4 e x y : List (Option Nat)) (h3 : a3.length ≤ 1000000000) (h4 : a4.length ≤ 1000000000) :
    ∃ b, spec_l03Both a0 a1 a2 a3 a4 e x y = some b ∧ impl_IsField a0 a1 a2 a3 a4 e x y = some b := by
  unfold spec_l03Both impl_IsField spec_l02Fits
  obtain ⟨v, h1, h2⟩ := is_eq a0 a1 a2 a3 a4 h3 h4
  rw [h1, h2]
  cases v with
  | false => exact ⟨false, rfl, rfl⟩
  | true =>
    obtain ⟨w, h, rfl, rfl, p1, p2, p3, p4, p5, p6⟩ := valid_has h2
    have hn : w * h ≤ 256 := Nat.le_trans (Nat.mul_le_mul (show w ≤ 16 by omega) (show h ≤ 16 by omega)) (by decide)
    have hmul : IntKind.wrap .i64 ((w : Int) * (h : Int)) = ((w * h : Nat) : Int) := by
      rw [show (w : Int) * (h : Int) = ((w * h : Nat) : Int) by simp]
      exact wrap_small (by omega) (by omega)
    simp only [hmul, Bool.not_true, Bool.false_eq_true, if_false, some_bind', if_true, ite_some]
    by_cases he : e.length = w * h
    · by_cases hx : x.length = w * h
      · by_cases hy : y.length = w * h
        · have q : ∀ n : Nat, n = w * h → ((n : Int) != ((w * h : Nat) : Int)) = false := by intro n hn; simp [hn]
          simp only [q _ he, q _ hx, q _ hy, Bool.false_eq_true, if_false, bind_id']
          cases a2 with
          | true =>
            refine ⟨true, ?_, rfl⟩
            have : loopF (fun (s : (Bool × Int)) => spec_l02Fits.s0 w h true a3 a4 e x y s.1 s.2) (false, 0) = some (.inl (false, 0, false)) := by
              apply loopF_stop
              show spec_l02Fits.s0 w h true a3 a4 e x y false 0 = _
              unfold spec_l02Fits.s0
              simp
            rw [this]; rfl
          | false =>
            let bad := fun cx cy : Nat => cellBad w h false (e[cx + w * cy]?.getD none) (x[cx + w * cy]?.getD none) (y[cx + w * cy]?.getD none) (cx : Int) (cy : Int)
            have A := loop_all' (step := fun (s : (Bool × Int)) => impl_IsField.s0 w h false a3 a4 e x y s.1 s.2) (n := w * h) (fun i => bad (i % w) (i / w)) false (false, ((w * h : Nat) : Int), false) (fun i hi => by
                have := field_step w h false a3 a4 e x y (by omega) (by omega) (by omega) he hx hy i hi false
                have e1 : i % w + w * (i / w) = i := Nat.mod_add_div i w
                simp only [bad, e1]
                exact this) (by
                show impl_IsField.s0 w h false a3 a4 e x y false ((w * h : Nat) : Int) = _
                unfold impl_IsField.s0
                rw [hmul, if_neg (by simp)]
                simp)
            have I : ∀ cy, cy < h → loopF (fun (s : (Bool × Int)) => spec_l02Fits.s1 w h false a3 a4 e x y cy s.1 s.2) (false, 0) = some (if (List.range w).any (fun cx => bad cx cy) then .inr false else .inl (false, (w : Int), false)) := fun cy hcy =>
              loop_all' (step := fun (s : (Bool × Int)) => spec_l02Fits.s1 w h false a3 a4 e x y cy s.1 s.2) (n := w) (fun cx => bad cx cy) false (false, (w : Int), false) (fun cx hcx => fits_step w h false a3 a4 e x y (by omega) (by omega) (by omega) he hx hy cx cy hcx hcy false) (by
                show spec_l02Fits.s1 w h false a3 a4 e x y cy false (w : Int) = _
                unfold spec_l02Fits.s1
                rw [if_neg (by simp)]
                simp)
            have B := loop_all' (step := fun (s : (Bool × Int)) => spec_l02Fits.s0 w h false a3 a4 e x y s.1 s.2) (n := h) (fun cy => (List.range w).any fun cx => bad cx cy) false (false, (h : Int), false) (fun cy hcy => by
                show spec_l02Fits.s0 w h false a3 a4 e x y false (cy : Int) = _
                unfold spec_l02Fits.s0
                rw [if_pos (by simp; omega)]
                simp only [Bool.not_false, some_bind', if_true]
                rw [I cy hcy]
                cases (List.range w).any (fun cx => bad cx cy) with
                | true => rfl
                | false =>
                  simp only [Bool.false_eq_true, if_false, some_bind']
                  rw [wrap_small (by omega) (by omega)]
                  rfl) (by
                show spec_l02Fits.s0 w h false a3 a4 e x y false (h : Int) = _
                unfold spec_l02Fits.s0
                rw [if_neg (by simp)]
                simp)
            rw [any_cells w h (by omega) bad] at B
            rw [A, B]
            cases (List.range (w * h)).any (fun i => bad (i % w) (i / w)) with
            | true => exact ⟨false, rfl, rfl⟩
            | false => exact ⟨true, rfl, rfl⟩
        · have q : ((y.length : Int) != ((w * h : Nat) : Int)) = true := by simpa using (show ¬ (y.length : Int) = ((w * h : Nat) : Int) by omega)
          refine ⟨false, ?_, ?_⟩ <;> simp only [q] <;> by_cases g1 : ((e.length : Int) != ((w * h : Nat) : Int)) = true <;> by_cases g2 : ((x.length : Int) != ((w * h : Nat) : Int)) = true <;> simp
      · have q : ((x.length : Int) != ((w * h : Nat) : Int)) = true := by simpa using (show ¬ (x.length : Int) = ((w * h : Nat) : Int) by omega)
        refine ⟨false, ?_, ?_⟩ <;> simp only [q] <;> by_cases g1 : ((e.length : Int) != ((w * h : Nat) : Int)) = true <;> simp
    · have q : ((e.length : Int) != ((w * h : Nat) : Int)) = true := by simpa using (show ¬ (e.length : Int) = ((w * h : Nat) : Int) by omega)
      exact ⟨false, by simp only [q, if_true]; rfl, by simp only [q, if_true]⟩
end Go.H
