/- Whole numbers and what is left over. -/
import Derived.Test.YtohfgnjmgipehaaFB4
set_option linter.unusedVariables false
namespace Go.H
open Go Ieee

/-- a magnitude that the format has is written as it stands -/
theorem read_exact (s : Bool) {m : Nat} {p : Int} (hm : m ≠ 0) (h1 : m < 2 ^ 53) (h2 : -1074 ≤ p) (h3 : p ≤ 900) : double.read (double.nearest s m p) = .number s (m <<< (p - max (p + m.log2 - 52) (-1074)).toNat) (max (p + m.log2 - 52) (-1074)) ∧ max (p + m.log2 - 52) (-1074) ≤ p := by
  have hlog : m.log2 < 53 := (Nat.log2_lt hm).2 h1
  have hlast : max (p + m.log2 - 52) (-1074) ≤ p := by omega
  refine ⟨?_, hlast⟩
  have hL : double.leastPlace = -1074 := by decide
  have hF : double.fractionBits = 52 := by decide
  have hB : double.binade = 4503599627370496 := by decide
  have hI : double.infRung = 9218868437227405312 := by decide
  have hS : double.signWeight = 9223372036854775808 := by decide
  unfold Format.nearest
  rw [if_neg hm]
  dsimp only
  rw [hL, hF]
  have e0 : (max (p + (m.log2 : Int) - ((52 : Nat) : Int)) (-1074) - p).toNat = 0 := by omega
  have hcut : ∀ n, Toward.even.cut s n 0 = n := by
    intro n
    unfold Toward.cut
    dsimp only
    have h1 : (1 : Nat) <<< min 0 (n.log2 + 2) = 1 := by simp
    rw [h1, Nat.div_one, Nat.mod_one]
    have : (decide (1 < 2 * 0) || (1 == 2 * 0 && n % 2 == 1)) = false := by
      have a : decide (1 < 2 * 0) = false := by decide
      have b : (1 == 2 * 0) = false := by decide
      rw [a, b]; rfl
    rw [this]; rfl
  rw [e0, hcut]
  have ecast : ((52 : Nat) : Int) = 52 := rfl
  rw [ecast]
  generalize hlast' : max (p + (m.log2 : Int) - 52) (-1074) = last at *
  have hkept : m <<< (p - last).toNat < 2 ^ 53 := by
    rw [Nat.shiftLeft_eq]
    calc m * 2 ^ (p - last).toNat < 2 ^ (m.log2 + 1) * 2 ^ (p - last).toNat := Nat.mul_lt_mul_of_pos_right (lt_pow_log2 m) (Nat.two_pow_pos _)
      _ = 2 ^ (m.log2 + 1 + (p - last).toNat) := (Nat.pow_add ..).symm
      _ ≤ 2 ^ 53 := Nat.pow_le_pow_right (by decide) (by omega)
  have hbig : last > -1074 → 2 ^ 52 ≤ m <<< (p - last).toNat := by
    intro hgt
    rw [Nat.shiftLeft_eq]
    calc 2 ^ 52 ≤ 2 ^ (m.log2 + (p - last).toNat) := Nat.pow_le_pow_right (by decide) (by omega)
      _ = 2 ^ m.log2 * 2 ^ (p - last).toNat := Nat.pow_add ..
      _ ≤ _ := Nat.mul_le_mul_right _ (pow_log2_le hm)
  generalize m <<< (p - last).toNat = K at *
  have hll : last ≤ 900 := by omega
  have hge : -1074 ≤ last := by omega
  rw [hB, hI]
  have e52 : (2 : Nat) ^ 52 = 4503599627370496 := by decide
  have e53 : (2 : Nat) ^ 53 = 9007199254740992 := by decide
  rw [e53] at hkept
  rw [e52] at hbig
  have hq : (last - -1074).toNat ≤ 1974 := by omega
  rw [Nat.min_eq_left (by omega)]
  rw [read_word double s (by rw [hS]; omega)]
  rw [hB, hI, hL]
  by_cases hz : last = -1074
  · subst hz
    have : (-1074 - -1074 : Int).toNat = 0 := by decide
    rw [this, Nat.zero_mul, Nat.zero_add]
    by_cases hlt : K < 4503599627370496
    · rw [if_pos hlt]
    · rw [if_neg hlt, if_pos (by omega)]
      have hmod : K % 4503599627370496 = K - 4503599627370496 := by omega
      have hdiv : K / 4503599627370496 = 1 := by omega
      rw [hmod, hdiv, Nat.add_sub_cancel' (by omega)]
      rfl
  · have hb := hbig (by omega)
    rw [if_neg (by omega), if_pos (by omega)]
    have hmod : ((last - -1074).toNat * 4503599627370496 + K) % 4503599627370496 = K - 4503599627370496 := by omega
    have hdiv : ((last - -1074).toNat * 4503599627370496 + K) / 4503599627370496 = (last - -1074).toNat + 1 := by omega
    rw [hmod, hdiv, Nat.add_sub_cancel' (by omega)]
    have e1 : -1074 + ((((last - -1074).toNat + 1 - 1 : Nat)) : Int) = last := by omega
    rw [e1]

theorem cut_whole (s : Bool) (n drop : Nat) : Toward.zero.cut s n drop = n / 2 ^ drop := by
  unfold Toward.cut
  dsimp only
  rw [Nat.one_shiftLeft]
  show n / 2 ^ min drop (n.log2 + 2) + Bool.toNat false = _
  by_cases h : drop ≤ n.log2 + 2
  · rw [Nat.min_eq_left h]; rfl
  · rw [Nat.min_eq_right (by omega)]
    have : ∀ k, n.log2 + 2 ≤ k → n / 2 ^ k = 0 := fun k hk => Nat.div_eq_of_lt (Nat.lt_trans (lt_pow_log2 n) (Nat.pow_lt_pow_right (by decide) (by omega)))
    rw [this _ (Nat.le_refl _), this _ (by omega)]; rfl

theorem cmp_geq (a b : Int) : (some (compare a b) == some Ordering.gt || some (compare a b) == some Ordering.eq) = decide (b ≤ a) := by
  rcases Int.lt_trichotomy a b with h | h | h
  · rw [Int.compare_eq_lt.2 h, decide_eq_false (by omega)]; rfl
  · subst h; rw [Int.compare_eq_eq.2 rfl, decide_eq_true (by omega)]; rfl
  · rw [Int.compare_eq_gt.2 h, decide_eq_true (by omega)]; rfl
theorem cmp_leq (a b : Int) : (some (compare a b) == some Ordering.lt || some (compare a b) == some Ordering.eq) = decide (a ≤ b) := by
  rcases Int.lt_trichotomy a b with h | h | h
  · rw [Int.compare_eq_lt.2 h, decide_eq_true (by omega)]; rfl
  · subst h; rw [Int.compare_eq_eq.2 rfl, decide_eq_true (by omega)]; rfl
  · rw [Int.compare_eq_gt.2 h, decide_eq_false (by omega)]; rfl
theorem cmp_gtr (a b : Int) : (some (compare a b) == some Ordering.gt) = decide (b < a) := by
  rcases Int.lt_trichotomy a b with h | h | h
  · rw [Int.compare_eq_lt.2 h, decide_eq_false (by omega)]; rfl
  · subst h; rw [Int.compare_eq_eq.2 rfl, decide_eq_false (by omega)]; rfl
  · rw [Int.compare_eq_gt.2 h, decide_eq_true (by omega)]; rfl
theorem cmp_lss (a b : Int) : (some (compare a b) == some Ordering.lt) = decide (a < b) := by
  rcases Int.lt_trichotomy a b with h | h | h
  · rw [Int.compare_eq_lt.2 h, decide_eq_true (by omega)]; rfl
  · subst h; rw [Int.compare_eq_eq.2 rfl, decide_eq_false (by omega)]; rfl
  · rw [Int.compare_eq_gt.2 h, decide_eq_false (by omega)]; rfl

theorem signed_eq (s : Bool) (m u : Nat) : signed s m u = if s then -((m * 2 ^ u : Nat) : Int) else ((m * 2 ^ u : Nat) : Int) := by
  unfold signed; rw [Nat.shiftLeft_eq]

/-- 'less than nought' tells the sign -/
theorem Sg.lss {x : Option Nat} (h : fcmp .lss .f64 x (some 0) = true) : Sg true x := by
  intro b hb
  subst hb
  have h : ((double.read b).order (double.read 0) == some .lt) = true := h
  have z : double.read 0 = .number false 0 (-1074) := by decide
  rw [z] at h
  revert h
  cases double.read b with
  | nan s t => intro h; cases h
  | infinity s => cases s <;> intro h <;> first | rfl | cases h
  | number s m i =>
    simp only [Datum.order, cmp_lss, signed_eq]
    cases s
    · intro h
      simp only [decide_eq_true_eq, Bool.false_eq_true, if_false] at h
      exfalso; omega
    · intro _; rfl

theorem Sg.geq {x : Option Nat} {c : Nat} (hc : ∃ m p, double.read c = .number false m p ∧ m ≠ 0) (h : fcmp .geq .f64 x (some c) = true) : Sg false x := by
  intro b hb
  subst hb
  obtain ⟨n, j, hc, hn⟩ := hc
  have h : ((double.read b).order (double.read c) == some .gt || (double.read b).order (double.read c) == some .eq) = true := h
  rw [hc] at h
  revert h
  cases double.read b with
  | nan s t => intro h; cases h
  | infinity s => cases s <;> intro h <;> first | rfl | cases h
  | number s m i =>
    simp only [Datum.order, cmp_geq, signed_eq]
    cases s
    · intro _; rfl
    · intro h
      simp only [decide_eq_true_eq, Bool.false_eq_true, if_false, if_true] at h
      have := Nat.mul_pos (Nat.pos_of_ne_zero hn) (Nat.two_pow_pos (j - min i j).toNat)
      exfalso; omega

theorem geq_of_gtr {x y : Option Nat} (h : fcmp .gtr .f64 x y = true) : fcmp .geq .f64 x y = true := by
  have h : (ford .f64 x y == some .gt) = true := h
  show (ford .f64 x y == some .gt || ford .f64 x y == some .eq) = true
  rw [h]; rfl

/-- 'at least', of the magnitude -/
theorem geq_abs {x : Option Nat} {c d : Nat} {n : Nat} {j : Int} (hn : n ≠ 0) (hc : double.read c = .number false n j) (hd : double.read d = .number true n j) (hx : Cl x) : fcmp .geq .f64 (fabs x) (some c) = (fcmp .geq .f64 x (some c) || fcmp .leq .f64 x (some d)) := by
  cases x with
  | none => rfl
  | some b =>
    have hb := hx b rfl
    show ((double.read (b % 2 ^ 63)).order (double.read c) == some .gt || (double.read (b % 2 ^ 63)).order (double.read c) == some .eq) = ((double.read b).order (double.read c) == some .gt || (double.read b).order (double.read c) == some .eq || ((double.read b).order (double.read d) == some .lt || (double.read b).order (double.read d) == some .eq))
    rw [read_abs, hc, hd]
    revert hb
    cases double.read b with
    | nan _ _ => intro h; cases h
    | infinity s => intro _; cases s <;> rfl
    | number s m i =>
      intro _
      simp only [Datum.order, cmp_geq, cmp_leq, signed_eq]
      have := Nat.mul_pos (Nat.pos_of_ne_zero hn) (Nat.two_pow_pos (j - min i j).toNat)
      generalize n * 2 ^ (j - min i j).toNat = N at *
      generalize m * 2 ^ (i - min i j).toNat = M at *
      cases s
      · simp only [Bool.false_eq_true, if_false, if_true]
        have : decide ((M : Int) ≤ -(N : Int)) = false := decide_eq_false (by omega)
        rw [this, Bool.or_false]
      · simp only [Bool.false_eq_true, if_false, if_true]
        have h1 : decide ((N : Int) ≤ -(M : Int)) = false := decide_eq_false (by omega)
        rw [h1, Bool.false_or, decide_eq_decide]
        omega

/-- a number of less than 2^52: its whole part, and that what is left over is at most one -/
theorem whole {x : Option Nat} (hf : fin .f64 x = true) (hc : fcmp .geq .f64 (fabs x) (some 4841369599423283200) = false) : ∃ n, ftoi .f64 .i64 x = some n ∧ Le 0 (fop .sub .f64 x (fofi .f64 n)) := by
  cases x with
  | none => cases hf
  | some b =>
    have hf : (match double.read b with | .number .. => true | _ => false) = true := hf
    have hc : ((double.read (b % 2 ^ 63)).order (double.read 4841369599423283200) == some .gt || (double.read (b % 2 ^ 63)).order (double.read 4841369599423283200) == some .eq) = false := hc
    have ec : double.read 4841369599423283200 = .number false 4503599627370496 0 := by decide
    rw [read_abs, ec] at hc
    cases hd : double.read b with
    | nan _ _ => rw [hd] at hf; cases hf
    | infinity _ => rw [hd] at hf; cases hf
    | number s m i =>
      rw [hd] at hc
      simp only [Datum.order, cmp_geq, signed_eq, Bool.false_eq_true, if_false] at hc
      have hc := of_decide_eq_false hc
      -- the whole part
      have hint : (FloatKind.f64.decode b).toInt .zero = some (signed s (m <<< i.toNat / 2 ^ (-i).toNat) 0) := by
        show (double.read b).toInt .zero = _
        rw [hd]
        unfold Datum.toInt Datum.integral
        simp only [cut_whole]
      generalize hN : m <<< i.toNat / 2 ^ (-i).toNat = N at *
      have e52 : (2 : Nat) ^ 52 = 4503599627370496 := by decide
      have hNlt : N < 2 ^ 52 := by
        rw [← hN, Nat.shiftLeft_eq]
        by_cases hi : 0 ≤ i
        · have e1 : (-i).toNat = 0 := by omega
          have e2 : min i 0 = 0 := by omega
          rw [e2, Int.sub_zero, Int.sub_zero] at hc
          have e3 : Int.toNat 0 = 0 := rfl
          rw [e3, Nat.pow_zero, Nat.mul_one] at hc
          rw [e1, Nat.pow_zero, Nat.div_one]
          omega
        · have e1 : i.toNat = 0 := by omega
          have e2 : min i 0 = i := by omega
          rw [e2, Int.sub_self] at hc
          have e3 : ((0 : Int) - i).toNat = (-i).toNat := by omega
          have e4 : Int.toNat 0 = 0 := rfl
          rw [e3, e4, Nat.pow_zero, Nat.mul_one] at hc
          rw [e1, Nat.pow_zero, Nat.mul_one]
          rw [Nat.div_lt_iff_lt_mul (Nat.two_pow_pos _), e52]
          omega
      have hsg : signed s N 0 = if s then -(N : Int) else (N : Int) := by
        rw [signed_eq, Nat.pow_zero, Nat.mul_one]
      have hft : ftoi .f64 .i64 (some b) = some (signed s N 0) := by
        show floatToIntVal .f64 b .i64 = _
        unfold floatToIntVal
        rw [hint]
        dsimp only
        rw [if_pos]
        rw [hsg]
        show (-9223372036854775808 : Int) ≤ _ ∧ _ ≤ (9223372036854775807 : Int)
        cases s
        · simp only [Bool.false_eq_true, if_false]; omega
        · simp only [if_true]; omega
      refine ⟨_, hft, ?_⟩
      -- what is left over
      refine le_map (d := (double.read b).sum (double.read (FloatKind.f64.nearest (signed s N 0))).opposite) (fun z hz => ?_) (by omega) (by omega)
      rw [hd] at hz
      have hnear : FloatKind.f64.nearest (signed s N 0) = double.nearest (decide (signed s N 0 < 0)) (signed s N 0).natAbs 0 := rfl
      have hab : (signed s N 0).natAbs = N := by rw [hsg]; cases s <;> simp
      rw [hnear, hab] at hz
      by_cases hN0 : N = 0
      · have hz0 : double.read (double.nearest (decide (signed s N 0 < 0)) N 0) = .number (decide (signed s N 0 < 0)) 0 (-1074) := by rw [hN0]; exact read_write_zero _ _
        rw [hz0] at hz
        simp only [Datum.opposite, Datum.sum, Option.some.injEq] at hz
        subst hz
        have hlt : m * 2 ^ i.toNat < 2 ^ (-i).toNat := by
          rw [hN0, Nat.shiftLeft_eq] at hN
          rcases Nat.div_eq_zero_iff.1 hN with h | h
          · have := Nat.two_pow_pos (-i).toNat; omega
          · exact h
        have hn : (signed s m (i - min i (-1074)).toNat + signed (!decide (signed s N 0 < 0)) 0 (-1074 - min i (-1074)).toNat).natAbs = m * 2 ^ (i - min i (-1074)).toNat := by
          have e0 : signed (!decide (signed s N 0 < 0)) 0 (-1074 - min i (-1074)).toNat = 0 := by
            rw [signed_eq, Nat.zero_mul]; split <;> simp
          rw [e0, Int.add_zero, natAbs_signed]
        refine .inr ⟨by omega, ?_⟩
        rw [hn]
        by_cases hi : 0 ≤ i
        · have e1 : (-i).toNat = 0 := by omega
          rw [e1, Nat.pow_zero] at hlt
          have hm0 : m = 0 := by
            have := Nat.two_pow_pos i.toNat
            rcases Nat.eq_zero_or_pos m with h | h
            · exact h
            · have := Nat.mul_pos h this; omega
          rw [hm0, Nat.zero_mul]; exact Nat.zero_le _
        · have e1 : i.toNat = 0 := by omega
          rw [e1, Nat.pow_zero, Nat.mul_one] at hlt
          calc m * 2 ^ (i - min i (-1074)).toNat ≤ 2 ^ (-i).toNat * 2 ^ (i - min i (-1074)).toNat := Nat.mul_le_mul_right _ (Nat.le_of_lt hlt)
            _ = 2 ^ (0 - min i (-1074)).toNat := by rw [← Nat.pow_add]; congr 1; omega
      · have hneg : decide (signed s N 0 < 0) = s := by
          rw [hsg]
          cases s
          · simp only [Bool.false_eq_true, if_false]; exact decide_eq_false (by omega)
          · simp only [if_true]; exact decide_eq_true (by omega)
        rw [hneg] at hz
        obtain ⟨hr, hle⟩ := read_exact s hN0 (by rw [show (2 : Nat) ^ 53 = 9007199254740992 by decide]; omega) (by decide : (-1074 : Int) ≤ 0) (by decide)
        rw [hr] at hz
        generalize max ((0 : Int) + N.log2 - 52) (-1074) = L at *
        simp only [Datum.opposite, Datum.sum, Option.some.injEq] at hz
        subst hz
        have hA : N <<< (0 - L).toNat * 2 ^ (L - min i L).toNat = N * 2 ^ (0 - min i L).toNat := by
          rw [Nat.shiftLeft_eq, Nat.mul_assoc, ← Nat.pow_add]
          congr 2; omega
        have hB : N * 2 ^ (-i).toNat ≤ m * 2 ^ i.toNat ∧ m * 2 ^ i.toNat < N * 2 ^ (-i).toNat + 2 ^ (-i).toNat := by
          rw [← hN, Nat.shiftLeft_eq]
          have h1 := Nat.div_mul_le_self (m * 2 ^ i.toNat) (2 ^ (-i).toNat)
          have h2 := Nat.lt_div_mul_add (a := m * 2 ^ i.toNat) (Nat.two_pow_pos (-i).toNat)
          exact ⟨h1, h2⟩
        -- both sides in the common place
        have hC : N * 2 ^ (0 - min i L).toNat ≤ m * 2 ^ (i - min i L).toNat ∧ m * 2 ^ (i - min i L).toNat ≤ N * 2 ^ (0 - min i L).toNat + 2 ^ (0 - min i L).toNat := by
          by_cases hi : 0 ≤ i
          · have e1 : (-i).toNat = 0 := by omega
            rw [e1, Nat.pow_zero, Nat.mul_one] at hB
            have hNe : N = m * 2 ^ i.toNat := by omega
            have : m * 2 ^ (i - min i L).toNat = N * 2 ^ (0 - min i L).toNat := by
              rw [hNe, Nat.mul_assoc, ← Nat.pow_add]; congr 2; omega
            rw [this]
            exact ⟨Nat.le_refl _, Nat.le_add_right _ _⟩
          · have e1 : i.toNat = 0 := by omega
            rw [e1, Nat.pow_zero, Nat.mul_one] at hB
            have e2 : (0 - min i L).toNat = (-i).toNat + (i - min i L).toNat := by omega
            rw [e2, Nat.pow_add]
            constructor
            · rw [← Nat.mul_assoc]; exact Nat.mul_le_mul_right _ hB.1
            · rw [← Nat.mul_assoc, ← Nat.add_mul]
              exact Nat.mul_le_mul_right _ (Nat.le_of_lt hB.2)
        refine .inr ⟨by omega, ?_⟩
        rw [signed_eq, signed_eq, hA]
        generalize m * 2 ^ (i - min i L).toNat = A at *
        generalize N * 2 ^ (0 - min i L).toNat = B at *
        generalize 2 ^ (0 - min i L).toNat = C at *
        cases s
        · simp only [Bool.not_false, Bool.false_eq_true, if_false, if_true]; omega
        · simp only [Bool.not_true, Bool.false_eq_true, if_false, if_true]; omega
end Go.H
