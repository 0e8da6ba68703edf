/- Shares of modes: bounds on what rounding turns, in units of 2^-2400. -/
import Derived.Test.YtmgoblppedmdhaaFV5
set_option linter.unusedVariables false
namespace Go.H
open Go Ieee

def TT : Int := 2 ^ 2347
theorem TT_pos : 0 < TT := ipow_pos 2347
theorem e2346 : (2 : Int) ^ 2346 * 2 = TT := by unfold TT; decide +kernel
theorem e2347 : (2 : Int) ^ 2347 = TT := rfl
theorem e2349 : (2 : Int) ^ 2349 = 4 * TT := by unfold TT; decide +kernel
theorem e2351 : (2 : Int) ^ 2351 = 16 * TT := by unfold TT; decide +kernel
theorem e2356 : (2 : Int) ^ 2356 = 512 * TT := by unfold TT; decide +kernel
theorem e2376 : (2 : Int) ^ 2376 = 536870912 * TT := by unfold TT; decide +kernel
theorem e2377 : (2 : Int) ^ 2377 = 1073741824 * TT := by unfold TT; decide +kernel
theorem e2378 : (2 : Int) ^ 2378 = 2147483648 * TT := by unfold TT; decide +kernel
theorem e2379 : (2 : Int) ^ 2379 = 4294967296 * TT := by unfold TT; decide +kernel
theorem e2390 : (2 : Int) ^ 2390 = 8796093022208 * TT := by unfold TT; decide +kernel
theorem eK : (2 : Int) ^ UN = 9007199254740992 * TT := by unfold TT UN; decide +kernel
theorem e2400 : (2 : Int) ^ 2400 = 9007199254740992 * TT := eK
theorem e2401 : (2 : Int) ^ 2401 = 18014398509481984 * TT := by unfold TT; decide +kernel
theorem e2402 : (2 : Int) ^ 2402 = 36028797018963968 * TT := by unfold TT; decide +kernel
theorem e2403 : (2 : Int) ^ 2403 = 72057594037927936 * TT := by unfold TT; decide +kernel
theorem e2409 : (2 : Int) ^ 2409 = 4611686018427387904 * TT := by unfold TT; decide +kernel
theorem e2500 : 9223372036854775808 * TT ≤ (2 : Int) ^ 2500 := by unfold TT; decide +kernel

/-- the size of a product -/
theorem ab {a b A B : Int} (a1 : -A ≤ a) (a2 : a ≤ A) (b1 : -B ≤ b) (b2 : b ≤ B) : -(A * B) ≤ a * b ∧ a * b ≤ A * B := by
  have hA : 0 ≤ A := by omega
  have hB : 0 ≤ B := by omega
  have h1 : 0 ≤ (A - a) * (B + b) := Int.mul_nonneg (by omega) (by omega)
  have h2 : 0 ≤ (A + a) * (B - b) := Int.mul_nonneg (by omega) (by omega)
  have h3 : 0 ≤ (A - a) * (B - b) := Int.mul_nonneg (by omega) (by omega)
  have h4 : 0 ≤ (A + a) * (B + b) := Int.mul_nonneg (by omega) (by omega)
  rw [Int.sub_mul, Int.mul_add, Int.mul_add] at h1
  rw [Int.add_mul, Int.mul_sub, Int.mul_sub] at h2
  rw [Int.sub_mul, Int.mul_sub, Int.mul_sub] at h3
  rw [Int.add_mul, Int.mul_add, Int.mul_add] at h4
  omega

theorem mul4 (c T d B : Int) : c * T * (d * B) = c * d * (T * B) := by
  rw [Int.mul_assoc, Int.mul_left_comm T d B, ← Int.mul_assoc]

theorem abm {x y T B : Int} (c d : Int) (a1 : -(c * T) ≤ x) (a2 : x ≤ c * T) (b1 : -(d * B) ≤ y) (b2 : y ≤ d * B) : -(c * d * (T * B)) ≤ x * y ∧ x * y ≤ c * d * (T * B) := by
  rw [← mul4]
  exact ab a1 a2 b1 b2

/-- a product in units -/
theorem prod_le {w e g C : Int} (h : w * 2 ^ UN = e * g) (e1 : -C ≤ e) (e2 : e ≤ C) (g1 : -(2 ^ UN) ≤ g) (g2 : g ≤ 2 ^ UN) : -C ≤ w ∧ w ≤ C := by
  obtain ⟨h1, h2⟩ := ab e1 e2 g1 g2
  rw [← h] at h1 h2
  have hp := ipow_pos UN
  constructor
  · rw [← Int.neg_mul] at h1
    exact Int.le_of_mul_le_mul_right h1 hp
  · exact Int.le_of_mul_le_mul_right h2 hp

/-- one cell of a mode: the size 'zz / 4', two sines -/
theorem mode_val {z s t : Option Nat} {zz a b : Int} {Q : Nat} (hz : valf .f32 z = some (zz * 2 ^ 2398)) (hs : valf .f32 s = some (a * 2 ^ 2374)) (ht : valf .f32 t = some (b * 2 ^ 2374)) (hQ : Q = 2376 ∧ -4 ≤ zz ∧ zz ≤ 4 ∨ Q = 2377 ∧ -6 ≤ zz ∧ zz ≤ 6)
    (a1 : -(2 ^ 26) ≤ a) (a2 : a ≤ 2 ^ 26) (b1 : -(2 ^ 26) ≤ b) (b2 : b ≤ 2 ^ 26) : ∃ v, valf .f32 (fop .mul .f32 (fop .mul .f32 z s) t) = some v ∧ -(2 ^ Q) ≤ v - zz * a * b * 2 ^ 2346 ∧ v - zz * a * b * 2 ^ 2346 ≤ 2 ^ Q ∧ -(2 ^ (24 + Q)) ≤ v ∧ v ≤ 2 ^ (24 + Q) := by
  have p1 : (2 : Int) ^ 2372 * 2 ^ UN = 2 ^ 2398 * 2 ^ 2374 := by unfold UN; decide +kernel
  have p2 : (2 : Int) ^ 2346 * 2 ^ UN = 2 ^ 2372 * 2 ^ 2374 := by unfold UN; decide +kernel
  have p3 : (2 : Int) ^ 26 * 2 ^ 2372 * 4 = 2 ^ 2400 := by decide +kernel
  have p4 : (2 : Int) ^ 26 * 2 ^ 2374 = 2 ^ UN := by unfold UN; decide +kernel
  have p5 : (2 : Int) ^ (24 + 2376) = 2 ^ 2400 := by decide +kernel
  have p6 : (2 : Int) ^ (24 + 2377) = 2 ^ 2400 * 2 := by decide +kernel
  have hL : FloatKind.f32.format.leastPlace = -149 := by decide
  have hN : fbits1 .f32 = 24 := by decide
  have hQ1 : 2376 ≤ Q := by omega
  have hQ2 : Q ≤ 2377 := by omega
  have w1 : zz * a * 2 ^ 2372 * 2 ^ UN = zz * 2 ^ 2398 * (a * 2 ^ 2374) := by
    rw [Int.mul_assoc (zz * a), p1, mul4]
  have bw : -(2 ^ (24 + Q)) ≤ zz * a * 2 ^ 2372 ∧ zz * a * 2 ^ 2372 ≤ 2 ^ (24 + Q) := by
    have hp : (0 : Int) ≤ 2 ^ 2372 := inonneg _
    have hx : ∀ c : Int, -c ≤ zz → zz ≤ c → -(c * (2 ^ 26 * 2 ^ 2372)) ≤ zz * a * 2 ^ 2372 ∧ zz * a * 2 ^ 2372 ≤ c * (2 ^ 26 * 2 ^ 2372) := by
      intro c c1 c2
      obtain ⟨h1, h2⟩ := ab c1 c2 a1 a2
      have h3 := Int.mul_le_mul_of_nonneg_right h1 hp
      have h4 := Int.mul_le_mul_of_nonneg_right h2 hp
      rw [Int.neg_mul, Int.mul_assoc c] at h3
      rw [Int.mul_assoc c] at h4
      exact ⟨h3, h4⟩
    rcases hQ with ⟨rfl, z1, z2⟩ | ⟨rfl, z1, z2⟩
    · have := hx 4 z1 z2
      rw [p5]
      generalize (2 : Int) ^ 26 * 2 ^ 2372 = k at *
      generalize (2 : Int) ^ 2400 = r at *
      omega
    · have := hx 6 z1 z2
      have h0 : (0 : Int) ≤ 2 ^ 2400 := inonneg _
      rw [p6]
      generalize (2 : Int) ^ 26 * 2 ^ 2372 = k at *
      generalize (2 : Int) ^ 2400 = r at *
      omega
  obtain ⟨v1, h1, r1⟩ := valf.mul hz hs (Q := Q) (by rw [hL]; omega) (by show Q ≤ 2490; omega) w1 (by rw [hN]; exact bw.1) (by rw [hN]; exact bw.2)
  rw [hN] at r1
  obtain ⟨r1a, r1b, -, r1c, r1d⟩ := r1
  obtain ⟨w2, hw2⟩ := mul_unit h1 ht
  have bu : -(2 ^ UN) ≤ b * 2 ^ 2374 ∧ b * 2 ^ 2374 ≤ 2 ^ UN := by
    have hp : (0 : Int) ≤ 2 ^ 2374 := inonneg _
    have h3 := Int.mul_le_mul_of_nonneg_right b1 hp
    have h4 := Int.mul_le_mul_of_nonneg_right b2 hp
    rw [Int.neg_mul, p4] at h3
    rw [p4] at h4
    exact ⟨h3, h4⟩
  have bw2 := prod_le hw2 r1c r1d bu.1 bu.2
  obtain ⟨v2, h2, r2⟩ := valf.mul h1 ht (Q := Q) (by rw [hL]; omega) (by show Q ≤ 2490; omega) hw2 (by rw [hN]; exact bw2.1) (by rw [hN]; exact bw2.2)
  rw [hN] at r2
  obtain ⟨r2a, r2b, -, r2c, r2d⟩ := r2
  refine ⟨v2, h2, ?_, ?_, r2c, r2d⟩
  all_goals
    have hd : (2 * w2 - 2 * (zz * a * b * 2 ^ 2346)) * 2 ^ UN = (2 * v1 - 2 * (zz * a * 2 ^ 2372)) * (b * 2 ^ 2374) := by
      rw [Int.sub_mul, Int.sub_mul, Int.mul_assoc 2 w2, hw2, Int.mul_assoc 2 v1, Int.mul_assoc 2 (zz * a * b * 2 ^ 2346), Int.mul_assoc 2 (zz * a * 2 ^ 2372), Int.mul_assoc (zz * a * b), p2]
      congr 2
      rw [Int.mul_assoc (zz * a) (2 ^ 2372), Int.mul_left_comm (2 ^ 2372) b, Int.mul_assoc (zz * a)]
    have := prod_le hd (C := 2 ^ Q) (by omega) (by omega) bu.1 bu.2
    omega

/-- the quotient of two sums -/
theorem share_quo {x y : Option Nat} {a b A B : Int} (hx : valf .f64 x = some a) (hy : valf .f64 y = some b) (a1 : -(32768 * TT) ≤ a - A) (a2 : a - A ≤ 32768 * TT) (b1 : -(32768 * TT) ≤ b - B) (b2 : b - B ≤ 32768 * TT)
    (B1 : 2 * (9007199254740992 * TT) ≤ B) (B2 : B ≤ 64 * (9007199254740992 * TT)) (A1 : -(4 * B) ≤ A) (A2 : A ≤ 4 * B) :
    ∃ q v, fcv .f64 .f32 (fop .quo .f64 x y) = some q ∧ valf .f32 q = some v ∧ -(4294967296 * (TT * B)) ≤ v * B - A * 2 ^ UN ∧ v * B - A * 2 ^ UN ≤ 4294967296 * (TT * B) ∧ fcmp .eql .f64 y (some 0) = false := by
  have hT := TT_pos
  have hb0 : 0 < b := by omega
  have z0 : valf .f64 (some 0) = some 0 := by decide +kernel
  have hbK : TT ≤ b := by omega
  have p24 : (2 : Int) ^ (52 + 2351) = 72057594037927936 * TT := e2403
  have hTb : 0 ≤ b * TT := Int.mul_nonneg (by omega) (by omega)
  have hquo : -(b * 2 ^ (52 + 2351)) ≤ a * 2 ^ UN ∧ a * 2 ^ UN ≤ b * 2 ^ (52 + 2351) := by
    rw [p24, eK, Int.mul_left_comm a, Int.mul_left_comm b]
    have h1 := Int.mul_le_mul_of_nonneg_right (show a ≤ 8 * b by omega) (show 0 ≤ TT by omega)
    have h2 := Int.mul_le_mul_of_nonneg_right (show -(8 * b) ≤ a by omega) (show 0 ≤ TT by omega)
    rw [Int.neg_mul, Int.mul_assoc] at h2
    rw [Int.mul_assoc] at h1
    generalize a * TT = p at *
    generalize b * TT = r at *
    omega
  obtain ⟨v1, h1, q1, q2⟩ := valf.quo (Q := 2351) (Z := 2500) hx hy hb0 (by decide) (by have := e2500; omega) (by decide) (by decide) hquo.1 hquo.2
  rw [e2351, eK, Int.mul_left_comm b, Int.mul_left_comm a] at q1 q2
  -- the quotient is at most a little more than 4
  have v1u : v1 ≤ 6 * (9007199254740992 * TT) := by
    refine Int.le_of_mul_le_mul_right ?_ hb0
    have h3 := Int.mul_le_mul_of_nonneg_right (show 2 * a ≤ 9 * b by omega) (show 0 ≤ TT by omega)
    rw [Int.mul_assoc, Int.mul_assoc] at h3
    rw [show 6 * (9007199254740992 * TT) * b = 54043195528445952 * (b * TT) by rw [Int.mul_comm b TT, ← Int.mul_assoc, ← Int.mul_assoc]; rfl]
    generalize v1 * b = r at *
    generalize a * TT = p at *
    generalize b * TT = s at *
    omega
  have v1l : -(6 * (9007199254740992 * TT)) ≤ v1 := by
    refine Int.le_of_mul_le_mul_right ?_ hb0
    have h3 := Int.mul_le_mul_of_nonneg_right (show -(9 * b) ≤ 2 * a by omega) (show 0 ≤ TT by omega)
    rw [Int.neg_mul, Int.mul_assoc, Int.mul_assoc] at h3
    rw [Int.neg_mul, show 6 * (9007199254740992 * TT) * b = 54043195528445952 * (b * TT) by rw [Int.mul_comm b TT, ← Int.mul_assoc, ← Int.mul_assoc]; rfl]
    generalize v1 * b = r at *
    generalize a * TT = p at *
    generalize b * TT = s at *
    omega
  have p27 : (2 : Int) ^ (24 + 2379) = 72057594037927936 * TT := e2403
  obtain ⟨q, v, c1, c2, c3, c4, -⟩ := valf.fcv (Q := 2379) h1 (by decide) (by decide) (by rw [p27]; omega) (by rw [p27]; omega)
  rw [e2379] at c3 c4
  refine ⟨q, v, c1, c2, ?_⟩
  have hB0 : 0 ≤ B := by omega
  have m1 := abm (x := v - v1) (y := B) (T := TT) (B := B) 2147483648 1 (by omega) (by omega) (by omega) (by omega)
  have m2 := abm (x := B - b) (y := v1) (T := TT) (B := B) 32768 3 (by omega) (by omega) (by omega) (by omega)
  have m3 := abm (x := a - A) (y := 9007199254740992 * TT) (T := TT) (B := B) 32768 1 (by omega) (by omega) (by omega) (by omega)
  have m4 : b * TT ≤ 2 * (TT * B) := by
    rw [Int.mul_comm b, Int.mul_left_comm]
    exact Int.mul_le_mul_of_nonneg_left (by omega) (by omega)
  have key : v * B - A * 2 ^ UN = (v - v1) * B + (B - b) * v1 + (v1 * b - 9007199254740992 * (a * TT)) + (a - A) * (9007199254740992 * TT) := by
    rw [eK, Int.sub_mul, Int.sub_mul, Int.sub_mul, Int.mul_left_comm a, Int.mul_comm B v1, Int.mul_comm b v1]
    omega
  rw [key]
  refine ⟨by omega, by omega, ?_⟩
  rw [valf.eql hy z0]
  exact decide_eq_false (by omega)
end Go.H
