/- Fields: the test of the program. -/
import Derived.Test.YtjlnfficehomhaaGreatDoorGField
import Derived.Test.YtjlnfficehomhaaGreatDoorPFold
import Derived.Test.YtjlnfficehomhaaGreatDoorPLoop
set_option linter.unusedVariables false
namespace Go.H
open Go Ieee

/-- what is wrong at a cell -/
def cellBad (w h : Int) (wr : Bool) (e x y : Option Nat) (cx cy : Int) : Bool :=
  ((!wr && (cx == 0 || (cx == IntKind.wrap .i64 (w - 1) || (cy == 0 || cy == IntKind.wrap .i64 (h - 1))))) && fcmp .neq .f32 e (some 0)) || ((cy == IntKind.wrap .i64 (h - 1) && fcmp .neq .f32 x (some 0)) || (cx == IntKind.wrap .i64 (w - 1) && fcmp .neq .f32 y (some 0)))

theorem cell_bool : ∀ b e cy x cx y : Bool, (if b = true then (if e = true then true else if cy = true then (if x = true then true else if cx = true then y else false) else if cx = true then y else false) else if cy = true then (if x = true then true else if cx = true then y else false) else if cx = true then y else false) = ((b && e) || ((cy && x) || (cx && y))) := by decide
theorem border_bool : ∀ w a b c d : Bool, (if (!w) = true then (if a = true then true else if b = true then true else if c = true then true else d) else false) = (!w && (a || (b || (c || d)))) := by decide

theorem border_eq (w h : Int) (wr : Bool) (l m : List (Option Nat)) (cx cy : Int) : impl_Sheet_isBorder w h wr l m cx cy = some (!wr && (cx == 0 || (cx == IntKind.wrap .i64 (w - 1) || (cy == 0 || cy == IntKind.wrap .i64 (h - 1))))) := by
  unfold impl_Sheet_isBorder
  simp only [ite_some, some_bind', border_bool]
theorem border_eq' (w h : Int) (wr : Bool) (l m : List (Option Nat)) (cx cy : Int) : spec_l02Border w h wr l m cx cy = some (!wr && (cx == 0 || (cx == IntKind.wrap .i64 (w - 1) || (cy == 0 || cy == IntKind.wrap .i64 (h - 1))))) := by
  unfold spec_l02Border
  simp only [ite_some, some_bind', border_bool]

theorem tdiv_nat (i w : Nat) : Int.tdiv (i : Int) (w : Int) = ((i / w : Nat) : Int) := rfl
theorem tmod_nat (i w : Nat) : Int.tmod (i : Int) (w : Int) = ((i % w : Nat) : Int) := rfl

/-- all cells, by rows or one after another -/
theorem any_cells (w h : Nat) (hw : 0 < w) (bad : Nat → Nat → Bool) : ((List.range h).any fun y => (List.range w).any fun x => bad x y) = (List.range (w * h)).any fun i => bad (i % w) (i / w) := by
  rw [Bool.eq_iff_iff, List.any_eq_true, List.any_eq_true]
  constructor
  · rintro ⟨y, hy, h1⟩
    obtain ⟨x, hx, h2⟩ := List.any_eq_true.1 h1
    have hy := List.mem_range.1 hy
    have hx := List.mem_range.1 hx
    refine ⟨x + w * y, List.mem_range.2 ?_, ?_⟩
    · calc x + w * y < w + w * y := by omega
        _ = w * (y + 1) := by rw [Nat.mul_succ, Nat.add_comm]
        _ ≤ w * h := Nat.mul_le_mul_left _ hy
    · have e1 : (x + w * y) % w = x := by rw [Nat.add_mul_mod_self_left, Nat.mod_eq_of_lt hx]
      have e2 : (x + w * y) / w = y := by rw [Nat.add_mul_div_left _ _ hw, Nat.div_eq_of_lt hx, Nat.zero_add]
      rw [e1, e2]; exact h2
  · rintro ⟨i, hi, h1⟩
    have hi := List.mem_range.1 hi
    refine ⟨i / w, List.mem_range.2 (Nat.div_lt_of_lt_mul hi), List.any_eq_true.2 ⟨i % w, List.mem_range.2 (Nat.mod_lt _ hw), h1⟩⟩

section
variable (w h : Nat) (wr : Bool) (l m e x y : List (Option Nat)) (hw : 0 < w) (hw2 : w ≤ 16) (hh : h ≤ 16) (he : e.length = w * h) (hx : x.length = w * h) (hy : y.length = w * h)
include hw hw2 hh he hx hy

theorem field_step (i : Nat) (hi : i < w * h) (b : Bool) : impl_IsField.s0 w h wr l m e x y b i = some (if cellBad w h wr (e[i]?.getD none) (x[i]?.getD none) (y[i]?.getD none) ((i % w : Nat) : Int) ((i / w : Nat) : Int) then .inr (.inr false) else .inl (b, ((i + 1 : Nat) : Int))) := by
  have hn : w * h ≤ 256 := Nat.le_trans (Nat.mul_le_mul hw2 hh) (by decide)
  have hmul : IntKind.wrap .i64 ((w : Int) * (h : Int)) = ((w * h : Nat) : Int) := by
    rw [show (w : Int) * (h : Int) = ((w * h : Nat) : Int) by simp]
    exact wrap_small (by omega) (by omega)
  have hd : IntKind.wrap .i64 (((i / w : Nat) : Int)) = ((i / w : Nat) : Int) := div_eq hi hn
  unfold impl_IsField.s0
  rw [if_pos (by rw [hmul]; simp; omega), if_neg (by omega), if_neg (by omega), tdiv_nat, tmod_nat, hd, border_eq]
  simp only [idx_nat, List.getElem?_eq_getElem (show i < e.length by omega), List.getElem?_eq_getElem (show i < x.length by omega), List.getElem?_eq_getElem (show i < y.length by omega), some_bind', ite_some, Option.getD_some, cell_bool]
  rw [wrap_small (n := (i : Int) + 1) (by omega) (by omega)]
  rfl

end

theorem field_num {a0 a1 : Int} {a2 : Bool} {a3 a4 e x y : List (Option Nat)} (h : impl_IsField a0 a1 a2 a3 a4 e x y = some true) : ∃ w k : Nat, a0 = w ∧ a1 = k ∧ 3 ≤ w ∧ w ≤ 16 ∧ 3 ≤ k ∧ k ≤ 16 ∧ e.length = w * k ∧ x.length = w * k ∧ y.length = w * k ∧ impl_ValidSheet a0 a1 a2 a3 a4 = some true := by
  unfold impl_IsField at h
  cases hv : impl_ValidSheet a0 a1 a2 a3 a4 with
  | none => rw [hv] at h; cases h
  | some v =>
    rw [hv] at h
    cases v with
    | false => cases h
    | true =>
      obtain ⟨w, k, rfl, rfl, w1, w2, k1, k2, l3, l4⟩ := valid_has hv
      simp only [some_bind', area_eq w2 k2, Bool.not_true, Bool.false_eq_true, if_false, ite_some] at h
      have q : ∀ n : Nat, ((n : Int) != ((w * k : Nat) : Int)) = false → n = w * k := by intro n hn; simp at hn; omega
      cases q1 : ((e.length : Int) != ((w * k : Nat) : Int)) with
      | true => rw [q1] at h; cases h
      | false => cases q2 : ((x.length : Int) != ((w * k : Nat) : Int)) with
        | true => rw [q1, q2] at h; cases h
        | false => cases q3 : ((y.length : Int) != ((w * k : Nat) : Int)) with
          | true => rw [q1, q2, q3] at h; cases h
          | false => exact ⟨w, k, rfl, rfl, w1, w2, k1, k2, q _ q1, q _ q2, q _ q3, rfl⟩

theorem copyOf_eq {l : List (Option Nat)} (h : l.length ≤ 1000000000) : impl_copyOf l = some l := by
  unfold impl_copyOf
  rw [if_pos (by simpa using h)]; rfl

end Go.H
