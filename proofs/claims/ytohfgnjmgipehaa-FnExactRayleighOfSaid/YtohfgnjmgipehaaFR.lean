/- Quotients of sums of squares: not too great. -/
import Derived.Test.YtohfgnjmgipehaaFM
set_option linter.unusedVariables false
namespace Go.H
open Go Ieee

theorem read_log64 {b : Nat} {s : Bool} {m : Nat} {i : Int} (h : double.read b = .number s m i) : m < 9007199254740992 := by
  unfold Format.read at h
  dsimp only at h
  have hb : double.binade = 4503599627370496 := by decide
  split at h
  · cases h; omega
  · split at h
    · cases h
      have := Nat.mod_lt (b % double.signWeight) (show 0 < double.binade by decide)
      omega
    · split at h <;> cases h

/-- half of a number -/
theorem half64 (x : Option Nat) : fop .quo .f64 x (some 4611686018427387904) = fop .mul .f64 x (some 4602678819172646912) := by
  cases x with
  | none => rfl
  | some b =>
    have r2 : double.read 4611686018427387904 = .number false 4503599627370496 (-51) := by decide
    have rh : double.read 4602678819172646912 = .number false 4503599627370496 (-53) := by decide
    show ((double.read b).quotient (double.fractionBits + 2) (double.read 4611686018427387904)).map double.write = ((double.read b).product (double.read 4602678819172646912)).map double.write
    rw [r2, rh]
    cases hr : double.read b with
    | nan s t => rfl
    | infinity s => cases s <;> rfl
    | number s m i =>
      have hm := read_log64 hr
      show some (double.nearest (s ^^ false) (2 * (m <<< (double.fractionBits + 2 + (4503599627370496 : Nat).log2 - m.log2) / 4503599627370496) + (m <<< (double.fractionBits + 2 + (4503599627370496 : Nat).log2 - m.log2) % 4503599627370496 != 0).toNat) (i - (-51) - ((double.fractionBits + 2 + (4503599627370496 : Nat).log2 - m.log2 : Nat) : Int) - 1)) = some (double.nearest (s ^^ false) (m * 4503599627370496) (i + -53))
      congr 1
      rw [Bool.xor_false]
      have hl : m.log2 ≤ 52 := by
        by_cases h0 : m = 0
        · subst h0; decide
        · have : m.log2 < 53 := (Nat.log2_lt h0).2 hm
          omega
      have hd : (4503599627370496 : Nat).log2 = 52 := by decide
      have hf : double.fractionBits = 52 := rfl
      rw [hd, hf]
      obtain ⟨c, hc⟩ : ∃ c, 52 + 2 + 52 - m.log2 = 52 + c := ⟨54 - m.log2, by omega⟩
      rw [hc, Nat.shiftLeft_eq, Nat.pow_add]
      have e8 : (4503599627370496 : Nat) = 2 ^ 52 := by decide
      have e1 : m * (2 ^ 52 * 2 ^ c) / 4503599627370496 = m * 2 ^ c := by
        rw [e8, show m * (2 ^ 52 * 2 ^ c) = m * 2 ^ c * 2 ^ 52 by rw [Nat.mul_assoc, Nat.mul_comm (2 ^ 52)]]
        exact Nat.mul_div_cancel _ (by decide)
      have e2 : m * (2 ^ 52 * 2 ^ c) % 4503599627370496 = 0 := by
        rw [e8, show m * (2 ^ 52 * 2 ^ c) = m * 2 ^ c * 2 ^ 52 by rw [Nat.mul_assoc, Nat.mul_comm (2 ^ 52)]]
        exact Nat.mul_mod_left _ _
      rw [e1, e2]
      show double.nearest s (2 * (m * 2 ^ c) + 0) _ = _
      rw [Nat.add_zero]
      have a1 : 2 * (m * 2 ^ c) = m * 2 ^ (c + 1) := by rw [Nat.pow_succ, Nat.mul_comm 2, Nat.mul_assoc]
      have a2 : i - (-51) - ((52 + c : Nat) : Int) - 1 = (i - 1) - ((c + 1 : Nat) : Int) := by omega
      rw [a1, a2, nearest_mul]
      have a3 : m * 4503599627370496 = m * 2 ^ 52 := by rw [e8]
      have a4 : i + (-53 : Int) = (i - 1) - ((52 : Nat) : Int) := by omega
      rw [a3, a4, nearest_mul]

/-- a number, neither infinite nor none -/
def FinW (x : Option Nat) : Prop := ∃ b s m p, x = some b ∧ double.read b = .number s m p

theorem fop64 {op : BinOp} {x y : Option Nat} {r : Nat} (h : fop op .f64 x y = some r) : ∃ a b, x = some a ∧ y = some b ∧ floatBits op .f64 a b = some r := fop_some h

theorem add_fin {x y : Option Nat} (h : FinW (fop .add .f64 x y)) : FinW x ∧ FinW y := by
  obtain ⟨r, s, m, p, hr, hn⟩ := h
  obtain ⟨a, b, rfl, rfl, hf⟩ := fop64 hr
  obtain ⟨z, hz, rfl⟩ := Option.map_eq_some_iff.1 (show ((double.read a).sum (double.read b)).map double.write = some r from hf)
  cases ha : double.read a with
  | nan _ _ => rw [ha] at hz; cases hz
  | infinity t =>
    rw [ha] at hz
    cases hb : double.read b with
    | nan _ _ => rw [hb] at hz; cases hz
    | infinity u =>
      rw [hb] at hz
      simp only [Datum.sum] at hz
      by_cases htu : t = u
      · rw [if_pos htu] at hz; cases hz; rw [read_write_inf] at hn; cases hn
      · rw [if_neg htu] at hz; cases hz
    | number _ _ _ => rw [hb] at hz; cases hz; rw [read_write_inf] at hn; cases hn
  | number s1 m1 p1 =>
    rw [ha] at hz
    cases hb : double.read b with
    | nan _ _ => rw [hb] at hz; cases hz
    | infinity u => rw [hb] at hz; cases hz; rw [read_write_inf] at hn; cases hn
    | number s2 m2 p2 => exact ⟨⟨a, s1, m1, p1, rfl, ha⟩, ⟨b, s2, m2, p2, rfl, hb⟩⟩

/-- positive, finite -/
def PosW (x : Option Nat) : Prop := ∃ b m p, x = some b ∧ double.read b = .number false m p ∧ m ≠ 0

theorem quo_fin {x y : Option Nat} (hy : PosW y) (h : FinW (fop .quo .f64 x y)) : FinW x := by
  obtain ⟨r, s, m, p, hr, hn⟩ := h
  obtain ⟨a, b, rfl, rfl, hf⟩ := fop64 hr
  obtain ⟨z, hz, rfl⟩ := Option.map_eq_some_iff.1 (show ((double.read a).quotient 54 (double.read b)).map double.write = some r from hf)
  obtain ⟨b', mb, pb, hb, hrb, _⟩ := hy
  cases hb
  rw [hrb] at hz
  cases ha : double.read a with
  | nan _ _ => rw [ha] at hz; cases hz
  | infinity t => rw [ha] at hz; cases hz; rw [read_write_inf] at hn; cases hn
  | number s1 m1 p1 => exact ⟨a, s1, m1, p1, rfl, ha⟩

theorem sq_fin {x : Option Nat} (h : FinW (fop .mul .f64 x x)) : FinW x := by
  obtain ⟨r, s, m, p, hr, hn⟩ := h
  obtain ⟨a, b, rfl, hb, hf⟩ := fop64 hr
  cases hb
  obtain ⟨z, hz, rfl⟩ := Option.map_eq_some_iff.1 (show ((double.read a).product (double.read a)).map double.write = some r from hf)
  cases ha : double.read a with
  | nan _ _ => rw [ha] at hz; cases hz
  | infinity t => rw [ha] at hz; cases hz; rw [read_write_inf] at hn; cases hn
  | number s1 m1 p1 => exact ⟨a, s1, m1, p1, rfl, ha⟩

/-- at least '2 ^ g' in absolute value -/
def AbsLo (g : Int) (x : Option Nat) : Prop := ∃ b s m p, x = some b ∧ double.read b = .number s m p ∧ m ≠ 0 ∧ g ≤ (m.log2 : Int) + p

theorem nn_write {z : Datum} (h : NnD z) : NnD (double.read (double.write z)) := by
  cases z with
  | number s m p =>
    by_cases hm : m = 0
    · subst hm; rw [read_write_zero]; exact .inr rfl
    · have hs : s = false := h.resolve_right hm
      subst hs
      obtain ⟨h1, h2⟩ := read_nearest_sign false m p
      show NnD (double.read (double.nearest false m p))
      cases hr : double.read (double.nearest false m p) with
      | number s m p => rw [hr] at h1; exact .inl h1
      | infinity s => rw [hr] at h1; exact h1
      | nan _ _ => rw [hr] at h2; cases h2
  | infinity s => rw [read_write_inf]; exact h
  | nan _ _ => exact absurd h (by intro h; exact h)

theorem sq_nn (x : Option Nat) : Nn (fop .mul .f64 x x) := by
  intro r hr
  obtain ⟨a, b, rfl, hb, hf⟩ := fop64 hr
  cases hb
  obtain ⟨z, hz, rfl⟩ := Option.map_eq_some_iff.1 (show ((double.read a).product (double.read a)).map double.write = some r from hf)
  refine nn_write ?_
  cases ha : double.read a with
  | nan _ _ => rw [ha] at hz; cases hz
  | infinity t => rw [ha] at hz; cases hz; simp [NnD]
  | number s1 m1 p1 => rw [ha] at hz; cases hz; exact .inl (by simp)

theorem quo_nn {x y : Option Nat} (hx : Nn x) (hy : PosW y) : Nn (fop .quo .f64 x y) := by
  intro r hr
  obtain ⟨a, b, rfl, rfl, hf⟩ := fop64 hr
  obtain ⟨z, hz, rfl⟩ := Option.map_eq_some_iff.1 (show ((double.read a).quotient 54 (double.read b)).map double.write = some r from hf)
  obtain ⟨b', mb, pb, hb, hrb, hmb⟩ := hy
  cases hb
  have hxa := hx a rfl
  rw [hrb] at hz
  refine nn_write ?_
  cases ha : double.read a with
  | nan _ _ => rw [ha] at hz; cases hz
  | infinity t =>
    rw [ha] at hz hxa
    cases hz
    have : t = false := hxa
    subst this; rfl
  | number s1 m1 p1 =>
    rw [ha] at hz hxa
    simp only [Datum.quotient, if_neg hmb, Option.some.injEq] at hz
    subst hz
    rcases hxa with h | h
    · exact .inl (by rw [h]; rfl)
    · exact .inr (by rw [h]; simp)

theorem add_nn {x y : Option Nat} (hx : Nn x) (hy : Nn y) : Nn (fop .add .f64 x y) := by
  intro r hr
  obtain ⟨a, b, rfl, rfl, hf⟩ := fop64 hr
  obtain ⟨z, hz, rfl⟩ := Option.map_eq_some_iff.1 (show ((double.read a).sum (double.read b)).map double.write = some r from hf)
  have hxa := hx a rfl
  have hyb := hy b rfl
  refine nn_write ?_
  cases ha : double.read a with
  | nan _ _ => rw [ha] at hz; cases hz
  | infinity t =>
    rw [ha] at hz hxa
    cases hb : double.read b with
    | nan _ _ => rw [hb] at hz; cases hz
    | infinity u =>
      rw [hb] at hz
      simp only [Datum.sum] at hz
      by_cases htu : t = u
      · rw [if_pos htu] at hz; cases hz; exact hxa
      · rw [if_neg htu] at hz; cases hz
    | number _ _ _ => rw [hb] at hz; cases hz; exact hxa
  | number s1 m1 p1 =>
    rw [ha] at hz hxa
    cases hb : double.read b with
    | nan _ _ => rw [hb] at hz; cases hz
    | infinity u => rw [hb] at hz hyb; cases hz; exact hyb
    | number s2 m2 p2 =>
      rw [hb] at hz hyb
      have sg : ∀ (s : Bool) (m u : Nat), (s = false ∨ m = 0) → signed s m u = ((m * 2 ^ u : Nat) : Int) := by
        intro s m u h
        unfold signed
        rw [Nat.shiftLeft_eq]
        rcases h with h | h <;> subst h <;> simp
      simp only [Datum.sum, Option.some.injEq] at hz
      subst hz
      rw [sg _ _ _ hxa, sg _ _ _ hyb]
      by_cases h0 : (((m1 * 2 ^ (p1 - min p1 p2).toNat : Nat) : Int) + ((m2 * 2 ^ (p2 - min p1 p2).toNat : Nat) : Int)) = 0
      · refine .inr ?_
        rw [h0]; rfl
      · refine .inl ?_
        rw [if_neg h0]
        exact decide_eq_false (Int.not_lt.2 (Int.add_nonneg (Int.natCast_nonneg _) (Int.natCast_nonneg _)))

theorem sq_lo {g : Int} {x : Option Nat} (h : AbsLo g x) (h1 : -511 ≤ g) : Lo (2 * g) (fop .mul .f64 x x) := by
  obtain ⟨b, s, m, p, rfl, hr, hm, hg⟩ := h
  refine lo_map (d := (double.read b).product (double.read b)) (fun z hz => ?_) (by omega)
  rw [hr] at hz
  cases hz
  refine ⟨Nat.mul_ne_zero hm hm, ?_⟩
  have := log2_sq hm (Nat.le_refl (m * m))
  omega

theorem quo_lo {d e : Int} {x y : Option Nat} (hx : Lo d x) (hy : PosW y) (hle : Le e y) (h1 : -1022 ≤ d - e) : Lo (d - e) (fop .quo .f64 x y) := by
  obtain ⟨b, n, j, rfl, hr, hn⟩ := hy
  have hl := hle b rfl
  rw [hr] at hl
  cases x with
  | none => exact lo_none
  | some a =>
    refine lo_map (d := (double.read a).quotient 54 (double.read b)) (fun z hz => ?_) h1
    have hxa := hx a rfl
    rw [hr] at hz
    cases ha : double.read a with
    | nan _ _ => rw [ha] at hz; cases hz
    | infinity t => rw [ha] at hz; cases hz; trivial
    | number s m i =>
      rw [ha] at hz hxa
      obtain ⟨hm, hd⟩ := hxa
      simp only [Datum.quotient, if_neg hn, Option.some.injEq] at hz
      subst hz
      rcases hl with hl | ⟨hl1, hl2⟩
      · exact absurd hl hn
      · generalize hk : 54 + n.log2 - m.log2 = k
        have hbt : ∀ b : Bool, b.toNat ≤ 1 := by decide
        -- n ≤ 2 ^ (e - j), 2 ^ log m ≤ m
        have hq : 2 ^ (m.log2 + k - (e - j).toNat) ≤ m <<< k / n := by
          rw [Nat.le_div_iff_mul_le (Nat.pos_of_ne_zero hn), Nat.shiftLeft_eq]
          by_cases hs : (e - j).toNat ≤ m.log2 + k
          · calc 2 ^ (m.log2 + k - (e - j).toNat) * n ≤ 2 ^ (m.log2 + k - (e - j).toNat) * 2 ^ (e - j).toNat := Nat.mul_le_mul_left _ hl2
              _ = 2 ^ (m.log2 + k) := by rw [← Nat.pow_add]; congr 1; omega
              _ = 2 ^ m.log2 * 2 ^ k := Nat.pow_add ..
              _ ≤ m * 2 ^ k := Nat.mul_le_mul_right _ (pow_log2_le hm)
          · -- then n is less than the dividend anyhow
            have hnl := lt_pow_log2 n
            have e0 : m.log2 + k - (e - j).toNat = 0 := by omega
            rw [e0, Nat.pow_zero, Nat.one_mul]
            calc n ≤ 2 ^ (n.log2 + 1) := Nat.le_of_lt hnl
              _ ≤ 2 ^ (m.log2 + k) := Nat.pow_le_pow_right (by decide) (by omega)
              _ = 2 ^ m.log2 * 2 ^ k := Nat.pow_add ..
              _ ≤ m * 2 ^ k := Nat.mul_le_mul_right _ (pow_log2_le hm)
        have hp := Nat.two_pow_pos (m.log2 + k - (e - j).toNat)
        generalize ((m <<< k) % n != 0).toNat = c
        generalize (m <<< k) / n = q at *
        have hne : 2 * q + c ≠ 0 := by omega
        refine ⟨hne, ?_⟩
        have hlog : m.log2 + k - (e - j).toNat + 1 ≤ (2 * q + c).log2 := by
          rw [Nat.le_log2 hne, Nat.pow_succ]
          omega
        have hlog2 : (54 + n.log2 : Nat) ≤ m.log2 + k := by omega
        omega
end Go.H
