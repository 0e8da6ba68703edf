/- Quotients of floats of 32 bits, as values in small units. -/
import Derived.Test.YtmgoblppedmdhaaFV5
set_option linter.unusedVariables false
namespace Go.H
open Go Ieee

theorem quo_core32 (m n I J : Nat) (hn : n ≠ 0) (hJ : J + n.log2 ≤ 2600) (hI : 1326 ≤ I) : ∃ more M P : Nat, more = 25 + n.log2 - m.log2 ∧ M = 2 * ((m <<< more) / n) + ((m <<< more) % n != 0).toNat ∧ P + J + more + 1 = I + 2400 ∧
    M * 2 ^ P * (n * 2 ^ J) ≤ m * 2 ^ (I + 2400) + 2 ^ P * (n * 2 ^ J) ∧ m * 2 ^ (I + 2400) ≤ M * 2 ^ P * (n * 2 ^ J) + 2 ^ P * (n * 2 ^ J) ∧ (m ≠ 0 → 2 ^ 25 ≤ M) ∧ (m = 0 → M = 0) := by
  refine ⟨25 + n.log2 - m.log2, _, I + 2400 - J - (25 + n.log2 - m.log2) - 1, rfl, rfl, by omega, ?_⟩
  have hP : I + 2400 - J - (25 + n.log2 - m.log2) - 1 + J + (25 + n.log2 - m.log2) + 1 = I + 2400 := by omega
  have hmore : 25 + n.log2 ≤ m.log2 + (25 + n.log2 - m.log2) := by omega
  generalize I + 2400 - J - (25 + n.log2 - m.log2) - 1 = P at *
  generalize 25 + n.log2 - m.log2 = more at *
  have hD : m <<< more = m * 2 ^ more := Nat.shiftLeft_eq ..
  have hq0 : m ≠ 0 → 2 ^ 24 ≤ (m <<< more) / n := by
    intro hm
    rw [Nat.le_div_iff_mul_le (Nat.pos_of_ne_zero hn), hD]
    calc 2 ^ 24 * n ≤ 2 ^ 24 * 2 ^ (n.log2 + 1) := Nat.mul_le_mul_left _ (Nat.le_of_lt (lt_pow_log2 n))
      _ = 2 ^ (25 + n.log2) := by rw [← Nat.pow_add]; congr 1; omega
      _ ≤ 2 ^ (m.log2 + more) := Nat.pow_le_pow_right (by decide) hmore
      _ = 2 ^ m.log2 * 2 ^ more := Nat.pow_add ..
      _ ≤ m * 2 ^ more := Nat.mul_le_mul_right _ (pow_log2_le hm)
  have hqr := Nat.div_add_mod (m <<< more) n
  have hr := Nat.mod_lt (m <<< more) (Nat.pos_of_ne_zero hn)
  have hbt : ((m <<< more) % n != 0).toNat = if (m <<< more) % n = 0 then 0 else 1 := by
    by_cases h : (m <<< more) % n = 0
    · rw [h]; rfl
    · rw [if_neg h, bne_iff_ne.2 h]; rfl
  rw [hbt]
  have e2 : m * 2 ^ (I + 2400) = 2 * (m <<< more) * (2 ^ P * 2 ^ J) := by
    rw [hD, ← Nat.pow_add, ← hP]
    have : P + J + more + 1 = 1 + more + (P + J) := by omega
    rw [this, Nat.pow_add, Nat.pow_add, Nat.pow_one]
    simp only [Nat.mul_assoc, Nat.mul_left_comm]
  have hz : m = 0 → m <<< more = 0 := by intro h; rw [hD, h, Nat.zero_mul]
  rw [e2]
  generalize (m <<< more) / n = q at *
  generalize (m <<< more) % n = r at *
  generalize m <<< more = D at *
  generalize hc : (if r = 0 then 0 else 1 : Nat) = c at *
  have hM : (2 * q + c) * n ≤ 2 * D + n ∧ 2 * D ≤ (2 * q + c) * n + n := by
    rw [← hqr, Nat.add_mul, Nat.mul_assoc, Nat.mul_comm q n]
    by_cases h : r = 0
    · rw [if_pos h] at hc; subst hc h; omega
    · rw [if_neg h] at hc; subst hc; omega
  have e3 : ∀ M : Nat, M * 2 ^ P * (n * 2 ^ J) = M * n * (2 ^ P * 2 ^ J) := fun M => by
    simp only [Nat.mul_assoc, Nat.mul_left_comm]
  have e4 : 2 ^ P * (n * 2 ^ J) = n * (2 ^ P * 2 ^ J) := by simp only [Nat.mul_left_comm]
  rw [e3, e4, ← Nat.add_mul, ← Nat.add_mul]
  refine ⟨Nat.mul_le_mul_right _ hM.1, Nat.mul_le_mul_right _ hM.2, fun hm => ?_, fun hm => ?_⟩
  · have := hq0 hm
    omega
  · have h0 := hz hm
    subst h0
    have : n * q = 0 := by omega
    rcases Nat.mul_eq_zero.1 this with h | h
    · exact absurd h hn
    · have hr0 : r = 0 := by omega
      rw [if_pos hr0] at hc
      omega

theorem valf.quo32 {x y : Option Nat} {a b : Int} {Q Z : Nat} (hx : valf .f32 x = some a) (hy : valf .f32 y = some b) (hb : 0 < b) (hZ : Z ≤ 2600) (hb2 : b ≤ 2 ^ Z) (hQ1 : 2251 ≤ Q) (hQ2 : Q ≤ 2490) (h1 : -(b * 2 ^ (23 + Q)) ≤ a * 2 ^ UN) (h2 : a * 2 ^ UN ≤ b * 2 ^ (23 + Q)) :
    ∃ v, valf .f32 (fop .quo .f32 x y) = some v ∧ -(b * 2 ^ Q) ≤ v * b - a * 2 ^ UN ∧ v * b - a * 2 ^ UN ≤ b * 2 ^ Q := by
  obtain ⟨bx, s, m, I, rfl, r1, rfl, i1⟩ := valf_elim hx
  obtain ⟨by', t, n, J, rfl, r2, rfl, j1⟩ := valf_elim hy
  have ht : t = false := by
    cases t with
    | false => rfl
    | true => rw [signed_true] at hb; omega
  subst ht
  rw [signed_false] at *
  have hn : n ≠ 0 := by
    intro h; subst h; simp at hb
  have hJ : J + n.log2 ≤ 2600 := by
    refine Classical.byContradiction fun hh => ?_
    have q1 : 2 ^ (Z + 1) ≤ 2 ^ (J + n.log2) := Nat.pow_le_pow_right (by decide) (by omega)
    have q2 : 2 ^ (J + n.log2) ≤ n * 2 ^ J := by rw [Nat.add_comm, Nat.pow_add]; exact Nat.mul_le_mul_right _ (pow_log2_le hn)
    have q3 : n * 2 ^ J ≤ 2 ^ Z := by rw [← castpow] at hb2; exact Int.ofNat_le.1 hb2
    have q4 : 2 ^ Z < 2 ^ (Z + 1) := by rw [Nat.pow_succ]; have := Nat.two_pow_pos Z; omega
    omega
  obtain ⟨more, M, P, e1, e2, e3, e4, e5, e6, e7⟩ := quo_core32 m n I J hn hJ i1
  have e8 : fop .quo .f32 (some bx) (some by') = some (single.nearest s M ((P : Int) - 2400)) := by
    show ((single.read bx).quotient 25 (single.read by')).map single.write = _
    have r1' : single.read bx = .number s m ((I : Int) - 2400) := r1
    have r2' : single.read by' = .number false n ((J : Int) - 2400) := r2
    rw [r1', r2']
    simp only [Datum.quotient, if_neg hn, ← e1, ← e2, Option.map_some]
    show some (single.nearest (s ^^ false) M ((I : Int) - 2400 - ((J : Int) - 2400) - more - 1)) = _
    rw [Bool.xor_false]
    congr 2
    omega
  rw [e8]
  have hB : (0 : Int) < ((n * 2 ^ J : Nat) : Int) := hb
  have cQ : ((2 ^ Q : Nat) : Int) = (2 : Int) ^ Q := castpow Q
  have cU : ((2 ^ UN : Nat) : Int) = (2 : Int) ^ UN := castpow UN
  have c5 : ((2 ^ (23 + Q) : Nat) : Int) = (2 : Int) ^ (23 + Q) := castpow _
  have eU : m * 2 ^ (I + 2400) = m * 2 ^ I * 2 ^ UN := by
    have : UN = 2400 := rfl
    rw [this, Nat.pow_add, Nat.mul_assoc]
  rw [eU] at e4 e5
  rw [← cU, ← c5] at h1 h2
  rw [← cQ, ← cU]
  by_cases hm : m = 0
  · have hM := e7 hm
    subst hm hM
    obtain ⟨v, hv, hr⟩ := write_val .f32 s 0 P Q (by have : FloatKind.f32.format.leastPlace = -149 := by decide
                                                     omega) (by exact hQ2) (by simp)
    have : v = 0 := by
      have := hr.2.2.1 (by cases s <;> simp [signed_val])
      rw [this]
      cases s <;> simp [signed_val]
    subst this
    have hs0 : signed s 0 I = 0 := by cases s <;> simp [signed_val]
    have hpos : 0 ≤ ((n * 2 ^ J : Nat) : Int) * ((2 ^ Q : Nat) : Int) := Int.mul_nonneg (Int.le_of_lt hB) (Int.natCast_nonneg _)
    rw [hs0]
    refine ⟨0, hv, ?_⟩
    simp only [Int.zero_mul, Int.sub_zero]
    exact ⟨by omega, hpos⟩
  · have hM := e6 hm
    have hmag : m * 2 ^ I * 2 ^ UN ≤ n * 2 ^ J * 2 ^ (23 + Q) := by
      cases s with
      | false => rw [signed_false] at h2; exact_mod_cast h2
      | true =>
        rw [signed_true] at h1
        have : ((m * 2 ^ I : Nat) : Int) * ((2 ^ UN : Nat) : Int) ≤ ((n * 2 ^ J : Nat) : Int) * ((2 ^ (23 + Q) : Nat) : Int) := by
          rw [Int.neg_mul] at h1
          generalize ((m * 2 ^ I : Nat) : Int) * ((2 ^ UN : Nat) : Int) = p at *
          generalize ((n * 2 ^ J : Nat) : Int) * ((2 ^ (23 + Q) : Nat) : Int) = q at *
          omega
        exact_mod_cast this
    have hB' : 0 < n * 2 ^ J := Nat.mul_pos (Nat.pos_of_ne_zero hn) (Nat.two_pow_pos _)
    have f1 : (M - 1) * 2 ^ P ≤ 2 ^ (23 + Q) := by
      refine Nat.le_of_mul_le_mul_right ?_ hB'
      have : (M - 1) * 2 ^ P * (n * 2 ^ J) + 2 ^ P * (n * 2 ^ J) = M * 2 ^ P * (n * 2 ^ J) := by
        have hm1 : (M - 1).succ = M := by omega
        rw [← Nat.add_mul, ← Nat.succ_mul, hm1]
      rw [Nat.mul_comm (2 ^ (23 + Q))]
      omega
    have f2 : 2 ^ 24 * 2 ^ P ≤ 2 ^ (23 + Q) := Nat.le_trans (Nat.mul_le_mul_right _ (by omega)) f1
    have f3 : 2 * 2 ^ P ≤ 2 ^ Q := by
      rw [Nat.pow_add] at f2
      have : 2 ^ 24 * 2 ^ P = 2 ^ 23 * (2 * 2 ^ P) := by rw [show (2 : Nat) ^ 24 = 2 ^ 23 * 2 by decide, Nat.mul_assoc]
      rw [this] at f2
      exact Nat.le_of_mul_le_mul_left f2 (by decide)
    have f4 : M * 2 ^ P ≤ 2 ^ (fbits1 .f32 + Q) := by
      have : fbits1 .f32 + Q = (23 + Q) + 1 := by
        have : fbits1 .f32 = 24 := by decide
        omega
      rw [this, Nat.pow_succ]
      have h : M ≤ (M - 1) * 2 := by omega
      have := Nat.mul_le_mul_right (2 ^ P) h
      have e : (M - 1) * 2 * 2 ^ P = (M - 1) * 2 ^ P * 2 := by rw [Nat.mul_right_comm]
      omega
    obtain ⟨v, hv, hr⟩ := write_val .f32 s M P Q (by have : FloatKind.f32.format.leastPlace = -149 := by decide
                                                     omega) (by exact hQ2) f4
    refine ⟨v, hv, ?_⟩
    obtain ⟨g1, g2, -⟩ := hr
    rw [← cQ] at g1 g2
    have k1 : ((M * 2 ^ P : Nat) : Int) * ((n * 2 ^ J : Nat) : Int) ≤ ((m * 2 ^ I : Nat) : Int) * ((2 ^ UN : Nat) : Int) + ((2 ^ P : Nat) : Int) * ((n * 2 ^ J : Nat) : Int) := by exact_mod_cast e4
    have k2 : ((m * 2 ^ I : Nat) : Int) * ((2 ^ UN : Nat) : Int) ≤ ((M * 2 ^ P : Nat) : Int) * ((n * 2 ^ J : Nat) : Int) + ((2 ^ P : Nat) : Int) * ((n * 2 ^ J : Nat) : Int) := by exact_mod_cast e5
    have k3 : 2 * ((2 ^ P : Nat) : Int) ≤ ((2 ^ Q : Nat) : Int) := by exact_mod_cast f3
    cases s with
    | false =>
      rw [signed_false] at g1 g2
      rw [signed_false]
      exact quo_mag hB g1 g2 k1 k2 k3
    | true =>
      rw [signed_true] at g1 g2
      rw [signed_true]
      have := quo_mag (v := -v) hB (by omega) (by omega) k1 k2 k3
      rw [Int.neg_mul] at this ⊢
      generalize v * ((n * 2 ^ J : Nat) : Int) = p at *
      omega
end Go.H
