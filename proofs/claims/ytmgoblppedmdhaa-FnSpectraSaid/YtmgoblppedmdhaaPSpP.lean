/- Spectra: the powers in all. -/
import Derived.Test.YtmgoblppedmdhaaPSpL
set_option linter.unusedVariables false
namespace Go.H
open Go Ieee

theorem e2357 : (2 : Int) ^ 2357 = 1024 * TT := by unfold TT; decide +kernel
theorem e2361 : (2 : Int) ^ 2361 = 16384 * TT := by unfold TT; decide +kernel
theorem e2386 : (2 : Int) ^ 2386 = 549755813888 * TT := by unfold TT; decide +kernel
theorem e2410 : (2 : Int) ^ 2410 = 9223372036854775808 * TT := by unfold TT; decide +kernel
theorem e2414 : (2 : Int) ^ 2414 = 147573952589676412928 * TT := by unfold TT; decide +kernel

theorem square_t {x : Option Nat} {S : Int} {n : Nat} (hn : n ≤ 10) (h : Near n x S) (s1 : -5368709120 ≤ S) (s2 : S ≤ 5368709120) :
    ∃ v, valf .f64 (fop .mul .f64 (wid x) (wid x)) = some v ∧ -(29206400002048 * TT) ≤ 8 * v - S * S * TT ∧ 8 * v - S * S * TT ≤ 29206400002048 * TT ∧ -(3900000000000000000 * TT) ≤ v ∧ v ≤ 3900000000000000000 * TT := by
  obtain ⟨a, va, a1, a2, a3, a4⟩ := near_abs hn h s1 s2
  have hT := TT_pos
  obtain ⟨w, hw⟩ := mul_unit (valf.wid va) (valf.wid va)
  have h1 := Int.mul_le_mul_of_nonneg_right s1 (show 0 ≤ 33554432 * TT by omega)
  have h2 := Int.mul_le_mul_of_nonneg_right s2 (show 0 ≤ 33554432 * TT by omega)
  have hU := ipow_pos UN
  have p := abm (x := a - S * (33554432 * TT)) (y := a + S * (33554432 * TT)) (T := TT) (B := TT) 91268055040 360288061457694720 (by omega) (by omega) (by omega) (by omega)
  have key : (8 * w - S * S * TT) * 2 ^ UN = 8 * ((a - S * (33554432 * TT)) * (a + S * (33554432 * TT))) := by
    rw [Int.sub_mul, Int.mul_assoc 8, hw, Int.sub_mul, Int.mul_add, Int.mul_add, Int.mul_sub, eK]
    generalize TT = T
    have e1 : S * S * T * (9007199254740992 * T) = 9007199254740992 * (S * S * T * T) := by rw [Int.mul_left_comm]
    have e2 : S * (33554432 * T) * (S * (33554432 * T)) = 1125899906842624 * (S * S * T * T) := by
      have : S * (33554432 * T) * (S * (33554432 * T)) = (33554432 * 33554432) * (S * S * T * T) := by ac_rfl
      rw [this]; rfl
    have e3 : S * (33554432 * T) * a = a * (S * (33554432 * T)) := Int.mul_comm _ _
    rw [e1, e2, e3]
    omega
  have hTT : 0 ≤ TT * TT := Int.mul_nonneg (by omega) (by omega)
  have e9 : 29206400000000 * TT * 2 ^ UN = 29206400000000 * 9007199254740992 * (TT * TT) := by rw [eK, mul4]
  have hd1 : -(29206400000000 * TT) ≤ 8 * w - S * S * TT := by
    refine Int.le_of_mul_le_mul_right ?_ hU
    rw [key, Int.neg_mul, e9]
    omega
  have hd2 : 8 * w - S * S * TT ≤ 29206400000000 * TT := by
    refine Int.le_of_mul_le_mul_right ?_ hU
    rw [key, e9]
    omega
  have q := abm (x := S) (y := S) (T := 1) (B := 1) 5368709120 5368709120 (by omega) (by omega) (by omega) (by omega)
  have hS1 := Int.mul_le_mul_of_nonneg_right (show S * S ≤ 28823037615171174400 by omega) (show 0 ≤ TT by omega)
  have hS2 := Int.mul_le_mul_of_nonneg_right (show 0 ≤ S * S from by
    rcases Int.le_total 0 S with h | h
    · exact Int.mul_nonneg h h
    · have := Int.mul_nonneg (show 0 ≤ -S by omega) (show 0 ≤ -S by omega)
      rw [Int.neg_mul_neg] at this
      exact this) (show 0 ≤ TT by omega)
  rw [Int.zero_mul] at hS2
  have pB : (2 : Int) ^ (fbits1 .f64 + 2356) = 4611686018427387904 * TT := by rw [N64]; exact e2409
  generalize S * S * TT = u at *
  obtain ⟨v, v1, v2, v3, -⟩ := valf.mul (valf.wid va) (valf.wid va) (Q := 2356) (by rw [L64]; decide) (by decide) hw (by rw [pB]; omega) (by rw [pB]; omega)
  rw [e2356] at v2 v3
  exact ⟨v, v1, by omega, by omega, by omega, by omega⟩

theorem power_t {z : Option Nat × Option Nat} {S R : Int} {n : Nat} (hn : n ≤ 10) (hS : Near n z.1 S) (hR : Near n z.2 R) (s1 : -5368709120 ≤ S) (s2 : S ≤ 5368709120) (r1 : -5368709120 ≤ R) (r2 : R ≤ 5368709120) :
    ∃ y v, impl_PowerOf z = some y ∧ valf .f32 y = some v ∧ -(60620000000000 * TT) ≤ 8 * v - (S * S + R * R) * TT ∧ 8 * v - (S * S + R * R) * TT ≤ 60620000000000 * TT ∧ -(7900000000000000000 * TT) ≤ v ∧ v ≤ 7900000000000000000 * TT := by
  have hT := TT_pos
  obtain ⟨a, a1, a2, a3, a4, a5⟩ := square_t hn hS s1 s2
  obtain ⟨b, b1, b2, b3, b4, b5⟩ := square_t hn hR r1 r2
  have pB : (2 : Int) ^ (fbits1 .f64 + 2357) = 9223372036854775808 * TT := by rw [N64]; exact e2410
  have pC : (2 : Int) ^ (24 + 2386) = 9223372036854775808 * TT := e2410
  obtain ⟨w, w1, w2, w3, -⟩ := valf.add a1 b1 (Q := 2357) (by rw [L64]; decide) (by decide) (by rw [pB]; omega) (by rw [pB]; omega)
  rw [e2357] at w2 w3
  obtain ⟨y, v, y1, y2, y3, y4, -⟩ := valf.fcv w1 (Q := 2386) (by decide) (by decide) (by rw [pC]; omega) (by rw [pC]; omega)
  rw [e2386] at y3 y4
  rw [Int.add_mul]
  refine ⟨y, v, ?_, y2, by omega, by omega, by omega, by omega⟩
  unfold impl_PowerOf impl_power impl_parts
  simp only [some_bind', y1]

theorem powers_t {L : List (Option Nat × Option Nat)} {n : Nat} {g : Nat → Int} (h1 : 1 ≤ n) (h2 : n ≤ 10) (hg : ∀ i, -8 ≤ g i ∧ g i ≤ 8) (hl : L.length = n) (hL : ∀ m, m < n → ∃ z, L[m]? = some z ∧ Near n z.1 (zR n m g n) ∧ Near n z.2 (zI n m g n)) :
    ∃ b, impl_PowersIn L = some (b, true) ∧ b.length = n ∧ ∀ m, m < n → ∃ y v, b[m]? = some y ∧ valf .f32 y = some v ∧ (-(60620000000000 * TT) ≤ 8 * v - (zR n m g n * zR n m g n + zI n m g n * zI n m g n) * TT ∧ 8 * v - (zR n m g n * zR n m g n + zI n m g n * zI n m g n) * TT ≤ 60620000000000 * TT) ∧ -(7900000000000000000 * TT) ≤ v ∧ v ≤ 7900000000000000000 * TT := by
  have B := loop_ex (S := List (Option Nat)) (step := fun (s : ((List (Option Nat)) × Int)) => impl_PowersIn.s0 L s.1 s.2) (fun s k => (s, (k : Int))) (fun k s => s.length = k ∧ ∀ m, m < k → ∃ y v, s[m]? = some y ∧ valf .f32 y = some v ∧ (-(60620000000000 * TT) ≤ 8 * v - (zR n m g n * zR n m g n + zI n m g n * zI n m g n) * TT ∧ 8 * v - (zR n m g n * zR n m g n + zI n m g n * zI n m g n) * TT ≤ 60620000000000 * TT) ∧ -(7900000000000000000 * TT) ≤ v ∧ v ≤ 7900000000000000000 * TT) n (fun s => ((n : Int), false, s)) [] ⟨rfl, fun m hm => by omega⟩ (fun k s hk hI => by
    obtain ⟨z, z1, z2, z3⟩ := hL k hk
    have hz := z_bd (m := k) h1 h2 hg n
    obtain ⟨y, v, y1, y2, y3, y4, y5, y6⟩ := power_t h2 z2 z3 (by omega) (by omega) (by omega) (by omega)
    refine ⟨s ++ [y], ?_, by simp [hI.1], fun m hm => ?_⟩
    · show impl_PowersIn.s0 L s (k : Int) = _
      unfold impl_PowersIn.s0
      rw [if_pos (by simp [hl]; omega), idx_nat, z1, some_bind', y1, some_bind', if_pos (by simp; omega), one_more (by omega)]
    · by_cases hmk : m = k
      · subst hmk
        exact ⟨y, v, by rw [List.getElem?_append_right (by omega), hI.1]; simp, y2, ⟨y3, y4⟩, y5, y6⟩
      · rw [List.getElem?_append_left (by omega)]
        exact hI.2 m (by omega)) (fun s hI => by
    show impl_PowersIn.s0 L s (n : Int) = _
    unfold impl_PowersIn.s0
    rw [if_neg (by simp [hl])]
    simp [hl])
  obtain ⟨b, B1, B2, B3⟩ := B
  refine ⟨b, ?_, B2, B3⟩
  unfold impl_PowersIn impl_isRecord_complex64 impl_within
  have c1 : (if decide ((L.length : Int) ≥ 1) = true then some (decide ((L.length : Int) ≤ 64)) else some false) = some true := by
    rw [if_pos (by rw [hl]; simp; omega), hl]; simp; omega
  have B1' : loopF (fun (s : ((List (Option Nat)) × Int)) => impl_PowersIn.s0 L s.1 s.2) (([] : List (Option Nat)), 0) = _ := B1
  rw [c1]
  simp only [some_bind', Bool.not_true, Bool.false_eq_true, if_false, B1']

theorem sumN_prod (F G : Nat → Int) (n : Nat) : ∀ k, sumN F k * sumN G n = sumN (fun i => sumN (fun j => F i * G j) n) k
  | 0 => by simp [sumN]
  | k + 1 => by rw [sumN, sumN, Int.add_mul, sumN_prod F G n k, sumN_mul]

theorem power_sum {n : Nat} {g : Nat → Int} (h1 : 1 ≤ n) (h2 : n ≤ 10) (hg : ∀ i, -8 ≤ g i ∧ g i ≤ 8) :
    -6871947673600 ≤ sumN (fun m => zR n m g n * zR n m g n + zI n m g n * zI n m g n) n - (n : Int) * 4503599627370496 * sumN (fun i => g i * g i) n ∧ sumN (fun m => zR n m g n * zR n m g n + zI n m g n * zI n m g n) n - (n : Int) * 4503599627370496 * sumN (fun i => g i * g i) n ≤ 6871947673600 := by
  have e : sumN (fun m => zR n m g n * zR n m g n + zI n m g n * zI n m g n) n = sumN (fun i => sumN (fun j => g i * g j * sumN (fun m => (pT true n (i * m % n)).1 * (pT true n (j * m % n)).1 + (pT true n (i * m % n)).2 * (pT true n (j * m % n)).2) n) n) n := by
    rw [sumN_congr (G := fun m => sumN (fun i => sumN (fun j => g i * g j * ((pT true n (i * m % n)).1 * (pT true n (j * m % n)).1 + (pT true n (i * m % n)).2 * (pT true n (j * m % n)).2)) n) n) n fun m _ => by
      unfold zR zI
      rw [sumN_prod, sumN_prod, ← sumN_add]
      refine sumN_congr n fun i _ => ?_
      rw [← sumN_add]
      refine sumN_congr n fun j _ => ?_
      generalize (pT true n (i * m % n)).1 = a
      generalize (pT true n (i * m % n)).2 = b
      generalize (pT true n (j * m % n)).1 = c
      generalize (pT true n (j * m % n)).2 = d
      rw [Int.mul_add, mul4 a (g i) c (g j), mul4 b (g i) d (g j), Int.mul_comm (g i * g j), Int.mul_comm (g i * g j)], sumN_swap]
    refine sumN_congr n fun i _ => ?_
    rw [sumN_swap]
    exact sumN_congr n fun j _ => sumN_mul (g i * g j) _ n
  have hd : ∀ i, i < n → -687194767360 ≤ sumN (fun j => g i * g j * sumN (fun m => (pT true n (i * m % n)).1 * (pT true n (j * m % n)).1 + (pT true n (i * m % n)).2 * (pT true n (j * m % n)).2) n) n - (n : Int) * 4503599627370496 * (g i * g i) ∧ sumN (fun j => g i * g j * sumN (fun m => (pT true n (i * m % n)).1 * (pT true n (j * m % n)).1 + (pT true n (i * m % n)).2 * (pT true n (j * m % n)).2) n) n - (n : Int) * 4503599627370496 * (g i * g i) ≤ 687194767360 := by
    intro i hi
    have hj : ∀ j, j < n → -68719476736 ≤ g i * g j * sumN (fun m => (pT true n (i * m % n)).1 * (pT true n (j * m % n)).1 + (pT true n (i * m % n)).2 * (pT true n (j * m % n)).2) n - (if (j : Int) = (i : Int) then (n : Int) * 4503599627370496 * (g i * g j) else 0) ∧ g i * g j * sumN (fun m => (pT true n (i * m % n)).1 * (pT true n (j * m % n)).1 + (pT true n (i * m % n)).2 * (pT true n (j * m % n)).2) n - (if (j : Int) = (i : Int) then (n : Int) * 4503599627370496 * (g i * g j) else 0) ≤ 68719476736 := by
      intro j hj
      have hb := pT_power (n - 1) (by omega) i (by omega) j (by omega)
      rw [show n - 1 + 1 = n by omega] at hb
      generalize sumN (fun m => (pT true n (i * m % n)).1 * (pT true n (j * m % n)).1 + (pT true n (i * m % n)).2 * (pT true n (j * m % n)).2) n = D at *
      have hgg := ab (hg i).1 (hg i).2 (hg j).1 (hg j).2
      have := ab hgg.1 hgg.2 hb.1 hb.2
      rw [Int.mul_sub] at this
      by_cases hik : i = j
      · subst hik
        rw [if_pos rfl] at this
        rw [if_pos rfl]
        have e2 : g i * g i * ((n : Int) * 2 ^ 52) = (n : Int) * 4503599627370496 * (g i * g i) := by rw [Int.mul_comm]; rfl
        rw [e2] at this
        omega
      · rw [if_neg hik, Int.mul_zero] at this
        rw [if_neg (by omega)]
        omega
    have hs := sumN_bd n hj
    rw [sumN_sub, sumN_pick, if_pos ⟨by omega, by omega⟩] at hs
    rw [Int.toNat_natCast] at hs
    omega
  have hs := sumN_bd n hd
  rw [sumN_sub, ← e, sumN_mul] at hs
  omega
end Go.H
