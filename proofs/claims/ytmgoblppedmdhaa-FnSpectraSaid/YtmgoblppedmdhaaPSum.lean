/- Sums of integers. -/
import Derived.Test.YtmgoblppedmdhaaLibA
set_option linter.unusedVariables false
namespace Go.H

def sumN (F : Nat → Int) : Nat → Int
  | 0 => 0
  | k + 1 => sumN F k + F k

theorem sumN_congr {F G : Nat → Int} : ∀ n, (∀ k, k < n → F k = G k) → sumN F n = sumN G n
  | 0, _ => rfl
  | n + 1, h => by rw [sumN, sumN, sumN_congr n (fun k hk => h k (by omega)), h n (by omega)]
theorem sumN_add (F G : Nat → Int) : ∀ n, sumN (fun k => F k + G k) n = sumN F n + sumN G n
  | 0 => rfl
  | n + 1 => by rw [sumN, sumN, sumN, sumN_add F G n]; omega
theorem sumN_sub (F G : Nat → Int) : ∀ n, sumN (fun k => F k - G k) n = sumN F n - sumN G n
  | 0 => rfl
  | n + 1 => by rw [sumN, sumN, sumN, sumN_sub F G n]; omega
theorem sumN_mul (c : Int) (F : Nat → Int) : ∀ n, sumN (fun k => c * F k) n = c * sumN F n
  | 0 => by simp [sumN]
  | n + 1 => by rw [sumN, sumN, sumN_mul c F n, Int.mul_add]
theorem sumN_zero : ∀ n, sumN (fun _ => 0) n = 0
  | 0 => rfl
  | n + 1 => by rw [sumN, sumN_zero n]; rfl
theorem sumN_nonneg {F : Nat → Int} : ∀ n, (∀ k, k < n → 0 ≤ F k) → 0 ≤ sumN F n
  | 0, _ => Int.le_refl _
  | n + 1, h => by rw [sumN]; have := sumN_nonneg n (fun k hk => h k (by omega)); have := h n (by omega); omega
theorem sumN_le {F G : Nat → Int} : ∀ n, (∀ k, k < n → F k ≤ G k) → sumN F n ≤ sumN G n
  | 0, _ => Int.le_refl _
  | n + 1, h => by rw [sumN, sumN]; have := sumN_le n (fun k hk => h k (by omega)); have := h n (by omega); omega
theorem sumN_each {F : Nat → Int} : ∀ n, (∀ k, k < n → 0 ≤ F k) → sumN F n ≤ 0 → ∀ k, k < n → F k = 0
  | 0, _, _ => fun k hk => by omega
  | n + 1, h, hs => fun k hk => by
    rw [sumN] at hs
    have h1 := sumN_nonneg n (fun k hk => h k (by omega))
    have h2 := h n (by omega)
    by_cases hkn : k = n
    · subst hkn; omega
    · exact sumN_each n (fun k hk => h k (by omega)) (by omega) k (by omega)
theorem sumN_swap (A : Nat → Nat → Int) (m : Nat) : ∀ n, sumN (fun i => sumN (fun j => A i j) m) n = sumN (fun j => sumN (fun i => A i j) n) m
  | 0 => by
    have : (fun j => sumN (fun i => A i j) 0) = fun _ => 0 := rfl
    rw [this, sumN_zero]; rfl
  | n + 1 => by
    rw [sumN, sumN_swap A m n, ← sumN_add]
    rfl
theorem sumN_pick (A : Nat → Int) (c : Int) : ∀ m, sumN (fun j => if (j : Int) = c then A j else 0) m = if 0 ≤ c ∧ c < (m : Int) then A c.toNat else 0
  | 0 => by rw [if_neg (by omega)]; rfl
  | m + 1 => by
    rw [sumN, sumN_pick A c m]
    by_cases h : (m : Int) = c
    · rw [if_pos h, if_neg (by omega), if_pos (by omega), ← h]; simp
    · rw [if_neg h]
      by_cases h2 : 0 ≤ c ∧ c < (m : Int)
      · rw [if_pos h2, if_pos (by omega)]; omega
      · rw [if_neg h2, if_neg (by omega)]; rfl
theorem sumN_bd {F : Nat → Int} {B : Int} : ∀ n : Nat, (∀ k, k < n → -B ≤ F k ∧ F k ≤ B) → -((n : Int) * B) ≤ sumN F n ∧ sumN F n ≤ (n : Int) * B
  | 0, _ => by simp [sumN]
  | n + 1, h => by
    have h1 := sumN_bd n (fun k hk => h k (by omega))
    have h2 := h n (by omega)
    rw [sumN]
    have e : ((n + 1 : Nat) : Int) * B = (n : Int) * B + B := by rw [Int.natCast_add, Int.add_mul]; simp
    rw [e]
    omega

theorem sq_pos {x : Int} (h : x ≠ 0) : 0 < x * x := by
  rcases Int.lt_or_gt_of_ne h with h | h
  · exact Int.mul_pos_of_neg_of_neg h h
  · exact Int.mul_pos h h
theorem sq_nonneg (x : Int) : 0 ≤ x * x := by
  by_cases h : x = 0
  · subst h; decide
  · exact Int.le_of_lt (sq_pos h)

/-- a list of numbers is less like itself shifted than like itself -/
theorem auto_less (n : Nat) (g : Nat → Int) (t : Int) (ht : t ≠ 0) (hnz : ∃ i, i < n ∧ g i ≠ 0) :
    sumN (fun i => sumN (fun j => if (j : Int) = (i : Int) + t then g i * g j else 0) n) n < sumN (fun i => g i * g i) n := by
  refine Classical.byContradiction fun hlt => ?_
  -- twice the difference
  have e0 : ∀ i j : Nat, (if (j : Int) = (i : Int) + t then (g i - g j) * (g i - g j) else 0) = (if (j : Int) = (i : Int) + t then g i * g i else 0) + (if (i : Int) = (j : Int) + -t then g j * g j else 0) - 2 * (if (j : Int) = (i : Int) + t then g i * g j else 0) := by
    intro i j
    by_cases h : (j : Int) = (i : Int) + t
    · rw [if_pos h, if_pos h, if_pos (show (i : Int) = (j : Int) + -t by omega), if_pos h]
      have : (g i - g j) * (g i - g j) = g i * g i + g j * g j - 2 * (g i * g j) := by
        rw [Int.sub_mul, Int.mul_sub, Int.mul_sub, Int.mul_comm (g j) (g i)]
        omega
      exact this
    · rw [if_neg h, if_neg h, if_neg (show ¬ (i : Int) = (j : Int) + -t by omega), if_neg h]; rfl
  have eD : sumN (fun i => sumN (fun j => if (j : Int) = (i : Int) + t then (g i - g j) * (g i - g j) else 0) n) n = sumN (fun i => if 0 ≤ (i : Int) + t ∧ (i : Int) + t < (n : Int) then g i * g i else 0) n + sumN (fun j => if 0 ≤ (j : Int) + -t ∧ (j : Int) + -t < (n : Int) then g j * g j else 0) n - 2 * sumN (fun i => sumN (fun j => if (j : Int) = (i : Int) + t then g i * g j else 0) n) n := by
    have a1 : sumN (fun i => sumN (fun j => if (j : Int) = (i : Int) + t then (g i - g j) * (g i - g j) else 0) n) n = sumN (fun i => sumN (fun j => if (j : Int) = (i : Int) + t then g i * g i else 0) n) n + sumN (fun i => sumN (fun j => if (i : Int) = (j : Int) + -t then g j * g j else 0) n) n - 2 * sumN (fun i => sumN (fun j => if (j : Int) = (i : Int) + t then g i * g j else 0) n) n := by
      rw [← sumN_mul, ← sumN_add, ← sumN_sub]
      refine sumN_congr n fun i _ => ?_
      rw [← sumN_mul, ← sumN_add, ← sumN_sub]
      exact sumN_congr n fun j _ => e0 i j
    rw [a1]
    congr 2
    · exact sumN_congr n fun i _ => sumN_pick (fun _ => g i * g i) _ n
    · rw [sumN_swap]
      exact sumN_congr n fun j _ => sumN_pick (fun _ => g j * g j) _ n
  have nD : ∀ i, i < n → 0 ≤ sumN (fun j => if (j : Int) = (i : Int) + t then (g i - g j) * (g i - g j) else 0) n := fun i _ => sumN_nonneg n fun j _ => by split; exact sq_nonneg _; exact Int.le_refl _
  have b1 : ∀ u : Int, ∀ i, i < n → 0 ≤ g i * g i - (if 0 ≤ (i : Int) + u ∧ (i : Int) + u < (n : Int) then g i * g i else 0) := fun u i _ => by
    have := sq_nonneg (g i)
    split <;> omega
  have c1 := sumN_nonneg n nD
  have c2 := sumN_nonneg n (b1 t)
  have c3 := sumN_nonneg n (b1 (-t))
  have c2' := sumN_sub (fun i => g i * g i) (fun i => if 0 ≤ (i : Int) + t ∧ (i : Int) + t < (n : Int) then g i * g i else 0) n
  have c3' := sumN_sub (fun i => g i * g i) (fun i => if 0 ≤ (i : Int) + -t ∧ (i : Int) + -t < (n : Int) then g i * g i else 0) n
  rw [c2'] at c2
  rw [c3'] at c3
  have z1 := sumN_each n nD (by omega)
  have z2 := sumN_each n (b1 t) (by rw [c2']; omega)
  -- all must be nought
  have hstep : ∀ i, i < n → (¬ (0 ≤ (i : Int) + t ∧ (i : Int) + t < (n : Int)) → g i = 0) ∧ (0 ≤ (i : Int) + t → (i : Int) + t < (n : Int) → g i = g ((i : Int) + t).toNat) := by
    intro i hi
    constructor
    · intro hn
      have := z2 i hi
      rw [if_neg hn] at this
      refine Classical.byContradiction fun h => ?_
      have := sq_pos h
      omega
    · intro h0 h1
      have h2 := z1 i hi
      rw [sumN_pick (fun j => (g i - g j) * (g i - g j)), if_pos ⟨h0, h1⟩] at h2
      refine Classical.byContradiction fun h => ?_
      have := sq_pos (show g i - g ((i : Int) + t).toNat ≠ 0 by omega)
      omega
  obtain ⟨i, hi, hg⟩ := hnz
  refine hg ?_
  rcases Int.lt_or_gt_of_ne ht with hneg | hpos
  · -- upwards
    have : ∀ m i, i ≤ m → i < n → g i = 0 := by
      intro m
      induction m with
      | zero =>
        intro i him hin
        exact (hstep i hin).1 (by omega)
      | succ m ih =>
        intro i him hin
        by_cases hc : 0 ≤ (i : Int) + t ∧ (i : Int) + t < (n : Int)
        · rw [(hstep i hin).2 hc.1 hc.2]
          exact ih _ (by omega) (by omega)
        · exact (hstep i hin).1 hc
    exact this i i (Nat.le_refl _) hi
  · have : ∀ m i, n ≤ i + m → i < n → g i = 0 := by
      intro m
      induction m with
      | zero => intro i him hin; omega
      | succ m ih =>
        intro i him hin
        by_cases hc : 0 ≤ (i : Int) + t ∧ (i : Int) + t < (n : Int)
        · rw [(hstep i hin).2 hc.1 hc.2]
          exact ih _ (by omega) (by omega)
        · exact (hstep i hin).1 hc
    exact this n i (by omega) hi

/-- a sum over pairs, taken by either of the two -/
theorem pairs_swap (n m : Nat) (A : Nat → Nat → Int) (s : Int) : sumN (fun i => if 0 ≤ (i : Int) + s ∧ (i : Int) + s < (m : Int) then A i ((i : Int) + s).toNat else 0) n = sumN (fun j => if 0 ≤ (j : Int) + -s ∧ (j : Int) + -s < (n : Int) then A ((j : Int) + -s).toNat j else 0) m := by
  have e1 : sumN (fun i => if 0 ≤ (i : Int) + s ∧ (i : Int) + s < (m : Int) then A i ((i : Int) + s).toNat else 0) n = sumN (fun i => sumN (fun j => if (j : Int) = (i : Int) + s then A i j else 0) m) n :=
    sumN_congr n fun i _ => (sumN_pick (fun j => A i j) _ m).symm
  have e2 : sumN (fun j => if 0 ≤ (j : Int) + -s ∧ (j : Int) + -s < (n : Int) then A ((j : Int) + -s).toNat j else 0) m = sumN (fun j => sumN (fun i => if (i : Int) = (j : Int) + -s then A i j else 0) n) m :=
    sumN_congr m fun j _ => (sumN_pick (fun i => A i j) _ n).symm
  rw [e1, e2, sumN_swap]
  refine sumN_congr m fun j _ => sumN_congr n fun i _ => ?_
  by_cases h : (j : Int) = (i : Int) + s
  · rw [if_pos h, if_pos (by omega)]
  · rw [if_neg h, if_neg (by omega)]
end Go.H
