/- Half of a number: a product and a quotient. -/
import Derived.Test.YtohfgnjmgipehaaFB5
set_option linter.unusedVariables false
namespace Go.H
open Go Ieee

theorem log2_mul_pow {n : Nat} (hn : n ≠ 0) (k : Nat) : (n * 2 ^ k).log2 = n.log2 + k := by
  apply log2_of
  · rw [Nat.pow_add]; exact Nat.mul_le_mul_right _ (pow_log2_le hn)
  · rw [show n.log2 + k + 1 = (n.log2 + 1) + k by omega, Nat.pow_add]
    exact Nat.mul_lt_mul_of_pos_right (lt_pow_log2 n) (Nat.two_pow_pos _)

theorem cut_mul (neg : Bool) {n : Nat} (hn : n ≠ 0) (k d : Nat) : Toward.even.cut neg (n * 2 ^ k) (d + k) = Toward.even.cut neg n d := by
  unfold Toward.cut
  dsimp only
  have hk := Nat.two_pow_pos k
  have e0 : min (d + k) ((n * 2 ^ k).log2 + 2) = min d (n.log2 + 2) + k := by rw [log2_mul_pow hn]; omega
  rw [e0]
  generalize min d (n.log2 + 2) = g
  simp only [Nat.one_shiftLeft]
  rw [Nat.pow_add, Nat.mul_div_mul_right _ _ hk, Nat.mul_mod_mul_right]
  have e1 : decide (2 ^ g * 2 ^ k < 2 * (n % 2 ^ g * 2 ^ k)) = decide (2 ^ g < 2 * (n % 2 ^ g)) := by
    rw [decide_eq_decide, ← Nat.mul_assoc]
    exact Nat.mul_lt_mul_right hk
  have e2 : (2 ^ g * 2 ^ k == 2 * (n % 2 ^ g * 2 ^ k)) = (2 ^ g == 2 * (n % 2 ^ g)) := by
    rw [Bool.eq_iff_iff, beq_iff_eq, beq_iff_eq, ← Nat.mul_assoc]
    exact ⟨fun h => Nat.eq_of_mul_eq_mul_right hk h, fun h => congrArg (· * 2 ^ k) h⟩
  rw [e1, e2]

theorem nearest_mul (f : Format) (s : Bool) (m k : Nat) (p : Int) : f.nearest s (m * 2 ^ k) (p - k) = f.nearest s m p := by
  by_cases hm : m = 0
  · subst hm; unfold Format.nearest; simp
  have hk := Nat.two_pow_pos k
  have hmk : m * 2 ^ k ≠ 0 := Nat.mul_ne_zero hm (by omega)
  unfold Format.nearest
  rw [if_neg hm, if_neg hmk, log2_mul_pow hm]
  have e0 : p - (k : Int) + ((m.log2 + k : Nat) : Int) - f.fractionBits = p + m.log2 - f.fractionBits := by omega
  simp only [e0]
  generalize max (p + (m.log2 : Int) - f.fractionBits) f.leastPlace = last
  have key : Toward.even.cut s ((m * 2 ^ k) <<< (p - k - last).toNat) (last - (p - k)).toNat = Toward.even.cut s (m <<< (p - last).toNat) (last - p).toNat := by
    rw [Nat.shiftLeft_eq, Nat.shiftLeft_eq]
    by_cases h1 : p < last
    · have a1 : (p - k - last).toNat = 0 := by omega
      have a2 : (p - last).toNat = 0 := by omega
      have a3 : (last - (p - k)).toNat = (last - p).toNat + k := by omega
      rw [a1, a2, a3, Nat.pow_zero, Nat.mul_one, Nat.mul_one]
      exact cut_mul s hm k _
    · have a2 : (last - p).toNat = 0 := by omega
      rw [a2]
      by_cases h2 : last ≤ p - k
      · have a3 : (last - (p - k)).toNat = 0 := by omega
        have a4 : (p - last).toNat = k + (p - k - last).toNat := by omega
        rw [a3, a4, Nat.pow_add, ← Nat.mul_assoc]
      · have a3 : (p - k - last).toNat = 0 := by omega
        have a4 : k = (p - last).toNat + (last - (p - k)).toNat := by omega
        rw [a3, Nat.pow_zero, Nat.mul_one]
        conv => lhs; rw [show m * 2 ^ k = m * 2 ^ (p - last).toNat * 2 ^ (last - (p - k)).toNat by rw [Nat.mul_assoc, ← Nat.pow_add, ← a4]]
        have := cut_mul s (n := m * 2 ^ (p - last).toNat) (Nat.mul_ne_zero hm (by have := Nat.two_pow_pos (p - last).toNat; omega)) (last - (p - k)).toNat 0
        rw [Nat.zero_add] at this
        exact this
  rw [key]

theorem read_log {b : Nat} {s : Bool} {m : Nat} {i : Int} (h : single.read b = .number s m i) : m < 16777216 := by
  unfold Format.read at h
  dsimp only at h
  have hb : single.binade = 8388608 := by decide
  split at h
  · cases h; omega
  · split at h
    · cases h
      have := Nat.mod_lt (b % single.signWeight) (show 0 < single.binade by decide)
      omega
    · split at h <;> cases h

/-- half of a number -/
theorem half32 (x : Option Nat) : fop .quo .f32 x (some 1073741824) = fop .mul .f32 (some 1056964608) x := by
  cases x with
  | none => rfl
  | some b =>
    have r2 : single.read 1073741824 = .number false 8388608 (-22) := by decide
    have rh : single.read 1056964608 = .number false 8388608 (-24) := by decide
    show ((single.read b).quotient (single.fractionBits + 2) (single.read 1073741824)).map single.write = ((single.read 1056964608).product (single.read b)).map single.write
    rw [r2, rh]
    cases hr : single.read b with
    | nan s t => rfl
    | infinity s => cases s <;> rfl
    | number s m i =>
      have hm := read_log hr
      show some (single.nearest (s ^^ false) (2 * (m <<< (single.fractionBits + 2 + (8388608 : Nat).log2 - m.log2) / 8388608) + (m <<< (single.fractionBits + 2 + (8388608 : Nat).log2 - m.log2) % 8388608 != 0).toNat) (i - (-22) - ((single.fractionBits + 2 + (8388608 : Nat).log2 - m.log2 : Nat) : Int) - 1)) = some (single.nearest (false ^^ s) (8388608 * m) (-24 + i))
      congr 1
      rw [Bool.xor_false, Bool.false_xor]
      have hl : m.log2 ≤ 23 := by
        by_cases h0 : m = 0
        · subst h0; decide
        · have : m.log2 < 24 := (Nat.log2_lt h0).2 hm
          omega
      have hd : (8388608 : Nat).log2 = 23 := by decide
      have hf : single.fractionBits = 23 := rfl
      rw [hd, hf]
      obtain ⟨c, hc⟩ : ∃ c, 23 + 2 + 23 - m.log2 = 23 + c := ⟨25 - m.log2, by omega⟩
      rw [hc, Nat.shiftLeft_eq, Nat.pow_add]
      have e8 : (8388608 : Nat) = 2 ^ 23 := by decide
      have e1 : m * (2 ^ 23 * 2 ^ c) / 8388608 = m * 2 ^ c := by
        rw [e8, show m * (2 ^ 23 * 2 ^ c) = m * 2 ^ c * 2 ^ 23 by rw [Nat.mul_assoc, Nat.mul_comm (2 ^ 23)]]
        exact Nat.mul_div_cancel _ (by decide)
      have e2 : m * (2 ^ 23 * 2 ^ c) % 8388608 = 0 := by
        rw [e8, show m * (2 ^ 23 * 2 ^ c) = m * 2 ^ c * 2 ^ 23 by rw [Nat.mul_assoc, Nat.mul_comm (2 ^ 23)]]
        exact Nat.mul_mod_left _ _
      rw [e1, e2]
      show single.nearest s (2 * (m * 2 ^ c) + 0) _ = _
      rw [Nat.add_zero]
      have a1 : 2 * (m * 2 ^ c) = m * 2 ^ (c + 1) := by rw [Nat.pow_succ, Nat.mul_comm 2, Nat.mul_assoc]
      have a2 : i - (-22) - ((23 + c : Nat) : Int) - 1 = (i - 1) - ((c + 1 : Nat) : Int) := by omega
      rw [a1, a2, nearest_mul]
      have a3 : 8388608 * m = m * 2 ^ 23 := by rw [Nat.mul_comm, e8]
      have a4 : (-24 : Int) + i = (i - 1) - ((23 : Nat) : Int) := by omega
      rw [a3, a4, nearest_mul]
end Go.H
