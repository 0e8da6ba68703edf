/- Loops over all cells, by rows and one after another. -/
import Derived.Test.YtjlnfficehomhaaGreatDoorPSheet
set_option linter.unusedVariables false
namespace Go.H
open Go Ieee

/-- so many rounds -/
def foldN {S : Type} (f : Nat → S → S) : Nat → S → S
  | 0, s => s
  | k + 1, s => f k (foldN f k s)

theorem foldN_add {S : Type} (f : Nat → S → S) (n : Nat) (s : S) : ∀ m, foldN f (n + m) s = foldN (fun k => f (n + k)) m (foldN f n s)
  | 0 => rfl
  | m + 1 => by rw [← Nat.add_assoc]; show f (n + m) (foldN f (n + m) s) = f (n + m) _; rw [foldN_add f n s m]
theorem foldN_congr {S : Type} {f g : Nat → S → S} : ∀ (n : Nat) (s : S), (∀ k s, k < n → f k s = g k s) → foldN f n s = foldN g n s
  | 0, _, _ => rfl
  | n + 1, s, h => by show f n (foldN f n s) = g n (foldN g n s); rw [foldN_congr n s (fun k s hk => h k s (by omega)), h n _ (by omega)]
/-- by rows -/
theorem foldN_rows {S : Type} (f : Nat → S → S) (w : Nat) (s : S) : ∀ h, foldN (fun y t => foldN (fun x => f (x + w * y)) w t) h s = foldN f (w * h) s
  | 0 => rfl
  | h + 1 => by
    show foldN (fun x => f (x + w * h)) w (foldN (fun y t => foldN (fun x => f (x + w * y)) w t) h s) = _
    rw [foldN_rows f w s h, Nat.mul_succ, foldN_add]
    exact foldN_congr _ _ fun k s _ => by rw [Nat.add_comm]

theorem loop_fold {St E S : Type} {step : St → Option (St ⊕ E)} (P : S → Nat → St) (f : Nat → S → S) (I : Nat → S → Prop) (n : Nat) (e : S → E) (s0 : S) (h0 : I 0 s0)
    (hs : ∀ k s, k < n → I k s → step (P s k) = some (.inl (P (f k s) (k + 1))) ∧ I (k + 1) (f k s)) (he : ∀ s, I n s → step (P s n) = some (.inr (e s))) :
    loopF step (P s0 0) = some (e (foldN f n s0)) ∧ I n (foldN f n s0) := by
  have key : ∀ k, k ≤ n → loopF step (P s0 0) = loopF step (P (foldN f k s0) k) ∧ I k (foldN f k s0) := by
    intro k
    induction k with
    | zero => intro _; exact ⟨rfl, h0⟩
    | succ k ih =>
      intro hk
      obtain ⟨g1, g2⟩ := ih (by omega)
      obtain ⟨g3, g4⟩ := hs k _ (by omega) g2
      exact ⟨g1.trans (loopF_next g3), g4⟩
  obtain ⟨g1, g2⟩ := key n (Nat.le_refl _)
  exact ⟨g1.trans (loopF_stop (he _ g2)), g2⟩

theorem foldN_inv {S : Type} {f : Nat → S → S} (I : Nat → S → Prop) {s : S} (h0 : I 0 s) : ∀ n, (∀ k s, k < n → I k s → I (k + 1) (f k s)) → I n (foldN f n s)
  | 0, _ => h0
  | n + 1, h => h n _ (by omega) (foldN_inv I h0 n fun k s hk => h k s (by omega))

theorem row_lt {w h x y : Nat} (hx : x < w) (hy : y < h) : x + w * y < w * h := by
  calc x + w * y < w + w * y := by omega
    _ = w * (y + 1) := by rw [Nat.mul_succ, Nat.add_comm]
    _ ≤ w * h := Nat.mul_le_mul_left _ hy

theorem area_le {w h : Nat} (hw : w ≤ 16) (hh : h ≤ 16) : w * h ≤ 256 := Nat.le_trans (Nat.mul_le_mul hw hh) (by decide)

theorem place_eq {w h x y : Nat} (hw : w ≤ 16) (hh : h ≤ 16) (hx : x < w) (hy : y < h) : IntKind.wrap .i64 ((x : Int) + IntKind.wrap .i64 ((w : Int) * (y : Int))) = ((x + w * y : Nat) : Int) := by
  have h1 := row_lt hx hy
  have h2 := area_le hw hh
  rw [show (w : Int) * (y : Int) = ((w * y : Nat) : Int) by simp, wrap_small (n := ((w * y : Nat) : Int)) (by omega) (by omega), show (x : Int) + ((w * y : Nat) : Int) = ((x + w * y : Nat) : Int) by simp]
  exact wrap_small (by omega) (by omega)

theorem div_eq {w i n : Nat} (hi : i < n) (hn : n ≤ 256) : IntKind.wrap .i64 (Int.tdiv (i : Int) (w : Int)) = ((i / w : Nat) : Int) := by
  show IntKind.wrap .i64 ((i / w : Nat) : Int) = _
  have := Nat.div_le_self i w
  generalize i / w = q at *
  exact wrap_small (by omega) (by omega)

theorem area_eq {w h : Nat} (hw : w ≤ 16) (hh : h ≤ 16) : IntKind.wrap .i64 ((w : Int) * (h : Int)) = ((w * h : Nat) : Int) := by
  have := area_le hw hh
  rw [show (w : Int) * (h : Int) = ((w * h : Nat) : Int) by simp]
  exact wrap_small (by omega) (by omega)

theorem fence (a0 a1 : Int) (p : Bool) (h : (if (!if decide (a0 ≥ 3) = true then decide (a0 ≤ 16) else false) = true then true else if (!if decide (a1 ≥ 3) = true then decide (a1 ≤ 16) else false) = true then true else p) = false) : 3 ≤ a0 ∧ a0 ≤ 16 ∧ 3 ≤ a1 ∧ a1 ≤ 16 := by
  by_cases q1 : a0 ≥ 3 <;> by_cases q2 : a0 ≤ 16 <;> by_cases q3 : a1 ≥ 3 <;> by_cases q4 : a1 ≤ 16 <;> simp [q1, q2, q3, q4] at h
  exact ⟨q1, q2, q3, q4⟩

/-- what a valid sheet has -/
theorem valid_has {a0 a1 : Int} {a2 : Bool} {a3 a4 : List (Option Nat)} (h : impl_ValidSheet a0 a1 a2 a3 a4 = some true) : ∃ w h : Nat, a0 = w ∧ a1 = h ∧ 3 ≤ w ∧ w ≤ 16 ∧ 3 ≤ h ∧ h ≤ 16 ∧ a3.length = w * h ∧ a4.length = w * h := by
  unfold impl_ValidSheet impl_within at h
  simp only [ite_some, some_bind'] at h
  generalize hc : (if (!if decide (a0 ≥ 3) = true then decide (a0 ≤ 16) else false) = true then true else if (!if decide (a1 ≥ 3) = true then decide (a1 ≤ 16) else false) = true then true else decide (IntKind.wrap .i64 (a0 * a1) > 256)) = c at h
  cases c with
  | true => cases h
  | false =>
    obtain ⟨p1, p2, p3, p4⟩ := fence a0 a1 _ hc
    obtain ⟨w, rfl⟩ := Int.eq_ofNat_of_zero_le (show 0 ≤ a0 by omega)
    obtain ⟨h', rfl⟩ := Int.eq_ofNat_of_zero_le (show 0 ≤ a1 by omega)
    have hn := area_le (show w ≤ 16 by omega) (show h' ≤ 16 by omega)
    rw [area_eq (show w ≤ 16 by omega) (show h' ≤ 16 by omega)] at h
    simp only [Bool.false_eq_true, if_false] at h
    by_cases l3 : ((a3.length : Int) == ((w * h' : Nat) : Int)) = true
    · rw [if_pos l3] at h
      by_cases l4 : ((a4.length : Int) == ((w * h' : Nat) : Int)) = true
      · simp only [beq_iff_eq] at l3 l4
        exact ⟨w, h', rfl, rfl, by omega, by omega, by omega, by omega, by omega, by omega⟩
      · rw [if_neg l4] at h; cases h
    · rw [if_neg l3] at h; cases h

theorem one_more {k : Nat} (h : k ≤ 1000000000) : IntKind.wrap .i64 ((k : Int) + 1) = ((k + 1 : Nat) : Int) := by
  rw [wrap_small (by omega) (by omega)]; rfl

theorem not_neg {n : Int} (h : 0 ≤ n) : decide (n < 0) = false := by simp; omega
end Go.H
