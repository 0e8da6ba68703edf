/- The library: frames told in part, a judgement on code over them, floats. -/
import Derived.Test.YtmgoblppedmdhaaLibE
import Derived.Test.YtmgoblppedmdhaaLibA
/- Quotients of sums of squares: not too great. -/
set_option linter.unusedVariables false
namespace Go.H
open Go Ieee

theorem read_log64 {b : Nat} {s : Bool} {m : Nat} {i : Int} (h : double.read b = .number s m i) : m < 9007199254740992 := by
  unfold Format.read at h
  dsimp only at h
  have hb : double.binade = 4503599627370496 := by decide
  split at h
  · cases h; omega
  · split at h
    · cases h
      have := Nat.mod_lt (b % double.signWeight) (show 0 < double.binade by decide)
      omega
    · split at h <;> cases h

/-- half of a number -/
theorem half64 (x : Option Nat) : fop .quo .f64 x (some 4611686018427387904) = fop .mul .f64 x (some 4602678819172646912) := by
  cases x with
  | none => rfl
  | some b =>
    have r2 : double.read 4611686018427387904 = .number false 4503599627370496 (-51) := by decide
    have rh : double.read 4602678819172646912 = .number false 4503599627370496 (-53) := by decide
    show ((double.read b).quotient (double.fractionBits + 2) (double.read 4611686018427387904)).map double.write = ((double.read b).product (double.read 4602678819172646912)).map double.write
    rw [r2, rh]
    cases hr : double.read b with
    | nan s t => rfl
    | infinity s => cases s <;> rfl
    | number s m i =>
      have hm := read_log64 hr
      show some (double.nearest (s ^^ false) (2 * (m <<< (double.fractionBits + 2 + (4503599627370496 : Nat).log2 - m.log2) / 4503599627370496) + (m <<< (double.fractionBits + 2 + (4503599627370496 : Nat).log2 - m.log2) % 4503599627370496 != 0).toNat) (i - (-51) - ((double.fractionBits + 2 + (4503599627370496 : Nat).log2 - m.log2 : Nat) : Int) - 1)) = some (double.nearest (s ^^ false) (m * 4503599627370496) (i + -53))
      congr 1
      rw [Bool.xor_false]
      have hl : m.log2 ≤ 52 := by
        by_cases h0 : m = 0
        · subst h0; decide
        · have : m.log2 < 53 := (Nat.log2_lt h0).2 hm
          omega
      have hd : (4503599627370496 : Nat).log2 = 52 := by decide
      have hf : double.fractionBits = 52 := rfl
      rw [hd, hf]
      obtain ⟨c, hc⟩ : ∃ c, 52 + 2 + 52 - m.log2 = 52 + c := ⟨54 - m.log2, by omega⟩
      rw [hc, Nat.shiftLeft_eq, Nat.pow_add]
      have e8 : (4503599627370496 : Nat) = 2 ^ 52 := by decide
      have e1 : m * (2 ^ 52 * 2 ^ c) / 4503599627370496 = m * 2 ^ c := by
        rw [e8, show m * (2 ^ 52 * 2 ^ c) = m * 2 ^ c * 2 ^ 52 by rw [Nat.mul_assoc, Nat.mul_comm (2 ^ 52)]]
        exact Nat.mul_div_cancel _ (by decide)
      have e2 : m * (2 ^ 52 * 2 ^ c) % 4503599627370496 = 0 := by
        rw [e8, show m * (2 ^ 52 * 2 ^ c) = m * 2 ^ c * 2 ^ 52 by rw [Nat.mul_assoc, Nat.mul_comm (2 ^ 52)]]
        exact Nat.mul_mod_left _ _
      rw [e1, e2]
      show double.nearest s (2 * (m * 2 ^ c) + 0) _ = _
      rw [Nat.add_zero]
      have a1 : 2 * (m * 2 ^ c) = m * 2 ^ (c + 1) := by rw [Nat.pow_succ, Nat.mul_comm 2, Nat.mul_assoc]
      have a2 : i - (-51) - ((52 + c : Nat) : Int) - 1 = (i - 1) - ((c + 1 : Nat) : Int) := by omega
      rw [a1, a2, nearest_mul]
      have a3 : m * 4503599627370496 = m * 2 ^ 52 := by rw [e8]
      have a4 : i + (-53 : Int) = (i - 1) - ((52 : Nat) : Int) := by omega
      rw [a3, a4, nearest_mul]

/-- a number, neither infinite nor none -/
def FinW (x : Option Nat) : Prop := ∃ b s m p, x = some b ∧ double.read b = .number s m p

theorem fop64 {op : BinOp} {x y : Option Nat} {r : Nat} (h : fop op .f64 x y = some r) : ∃ a b, x = some a ∧ y = some b ∧ floatBits op .f64 a b = some r := fop_some h

theorem add_fin {x y : Option Nat} (h : FinW (fop .add .f64 x y)) : FinW x ∧ FinW y := by
  obtain ⟨r, s, m, p, hr, hn⟩ := h
  obtain ⟨a, b, rfl, rfl, hf⟩ := fop64 hr
  obtain ⟨z, hz, rfl⟩ := Option.map_eq_some_iff.1 (show ((double.read a).sum (double.read b)).map double.write = some r from hf)
  cases ha : double.read a with
  | nan _ _ => rw [ha] at hz; cases hz
  | infinity t =>
    rw [ha] at hz
    cases hb : double.read b with
    | nan _ _ => rw [hb] at hz; cases hz
    | infinity u =>
      rw [hb] at hz
      simp only [Datum.sum] at hz
      by_cases htu : t = u
      · rw [if_pos htu] at hz; cases hz; rw [read_write_inf] at hn; cases hn
      · rw [if_neg htu] at hz; cases hz
    | number _ _ _ => rw [hb] at hz; cases hz; rw [read_write_inf] at hn; cases hn
  | number s1 m1 p1 =>
    rw [ha] at hz
    cases hb : double.read b with
    | nan _ _ => rw [hb] at hz; cases hz
    | infinity u => rw [hb] at hz; cases hz; rw [read_write_inf] at hn; cases hn
    | number s2 m2 p2 => exact ⟨⟨a, s1, m1, p1, rfl, ha⟩, ⟨b, s2, m2, p2, rfl, hb⟩⟩

/-- positive, finite -/
def PosW (x : Option Nat) : Prop := ∃ b m p, x = some b ∧ double.read b = .number false m p ∧ m ≠ 0

theorem quo_fin {x y : Option Nat} (hy : PosW y) (h : FinW (fop .quo .f64 x y)) : FinW x := by
  obtain ⟨r, s, m, p, hr, hn⟩ := h
  obtain ⟨a, b, rfl, rfl, hf⟩ := fop64 hr
  obtain ⟨z, hz, rfl⟩ := Option.map_eq_some_iff.1 (show ((double.read a).quotient 54 (double.read b)).map double.write = some r from hf)
  obtain ⟨b', mb, pb, hb, hrb, _⟩ := hy
  cases hb
  rw [hrb] at hz
  cases ha : double.read a with
  | nan _ _ => rw [ha] at hz; cases hz
  | infinity t => rw [ha] at hz; cases hz; rw [read_write_inf] at hn; cases hn
  | number s1 m1 p1 => exact ⟨a, s1, m1, p1, rfl, ha⟩

theorem sq_fin {x : Option Nat} (h : FinW (fop .mul .f64 x x)) : FinW x := by
  obtain ⟨r, s, m, p, hr, hn⟩ := h
  obtain ⟨a, b, rfl, hb, hf⟩ := fop64 hr
  cases hb
  obtain ⟨z, hz, rfl⟩ := Option.map_eq_some_iff.1 (show ((double.read a).product (double.read a)).map double.write = some r from hf)
  cases ha : double.read a with
  | nan _ _ => rw [ha] at hz; cases hz
  | infinity t => rw [ha] at hz; cases hz; rw [read_write_inf] at hn; cases hn
  | number s1 m1 p1 => exact ⟨a, s1, m1, p1, rfl, ha⟩

/-- at least '2 ^ g' in absolute value -/
def AbsLo (g : Int) (x : Option Nat) : Prop := ∃ b s m p, x = some b ∧ double.read b = .number s m p ∧ m ≠ 0 ∧ g ≤ (m.log2 : Int) + p

theorem nn_write {z : Datum} (h : NnD z) : NnD (double.read (double.write z)) := by
  cases z with
  | number s m p =>
    by_cases hm : m = 0
    · subst hm; rw [read_write_zero]; exact .inr rfl
    · have hs : s = false := h.resolve_right hm
      subst hs
      obtain ⟨h1, h2⟩ := read_nearest_sign false m p
      show NnD (double.read (double.nearest false m p))
      cases hr : double.read (double.nearest false m p) with
      | number s m p => rw [hr] at h1; exact .inl h1
      | infinity s => rw [hr] at h1; exact h1
      | nan _ _ => rw [hr] at h2; cases h2
  | infinity s => rw [read_write_inf]; exact h
  | nan _ _ => exact absurd h (by intro h; exact h)

theorem sq_nn (x : Option Nat) : Nn (fop .mul .f64 x x) := by
  intro r hr
  obtain ⟨a, b, rfl, hb, hf⟩ := fop64 hr
  cases hb
  obtain ⟨z, hz, rfl⟩ := Option.map_eq_some_iff.1 (show ((double.read a).product (double.read a)).map double.write = some r from hf)
  refine nn_write ?_
  cases ha : double.read a with
  | nan _ _ => rw [ha] at hz; cases hz
  | infinity t => rw [ha] at hz; cases hz; simp [NnD]
  | number s1 m1 p1 => rw [ha] at hz; cases hz; exact .inl (by simp)

theorem quo_nn {x y : Option Nat} (hx : Nn x) (hy : PosW y) : Nn (fop .quo .f64 x y) := by
  intro r hr
  obtain ⟨a, b, rfl, rfl, hf⟩ := fop64 hr
  obtain ⟨z, hz, rfl⟩ := Option.map_eq_some_iff.1 (show ((double.read a).quotient 54 (double.read b)).map double.write = some r from hf)
  obtain ⟨b', mb, pb, hb, hrb, hmb⟩ := hy
  cases hb
  have hxa := hx a rfl
  rw [hrb] at hz
  refine nn_write ?_
  cases ha : double.read a with
  | nan _ _ => rw [ha] at hz; cases hz
  | infinity t =>
    rw [ha] at hz hxa
    cases hz
    have : t = false := hxa
    subst this; rfl
  | number s1 m1 p1 =>
    rw [ha] at hz hxa
    simp only [Datum.quotient, if_neg hmb, Option.some.injEq] at hz
    subst hz
    rcases hxa with h | h
    · exact .inl (by rw [h]; rfl)
    · exact .inr (by rw [h]; simp)

theorem add_nn {x y : Option Nat} (hx : Nn x) (hy : Nn y) : Nn (fop .add .f64 x y) := by
  intro r hr
  obtain ⟨a, b, rfl, rfl, hf⟩ := fop64 hr
  obtain ⟨z, hz, rfl⟩ := Option.map_eq_some_iff.1 (show ((double.read a).sum (double.read b)).map double.write = some r from hf)
  have hxa := hx a rfl
  have hyb := hy b rfl
  refine nn_write ?_
  cases ha : double.read a with
  | nan _ _ => rw [ha] at hz; cases hz
  | infinity t =>
    rw [ha] at hz hxa
    cases hb : double.read b with
    | nan _ _ => rw [hb] at hz; cases hz
    | infinity u =>
      rw [hb] at hz
      simp only [Datum.sum] at hz
      by_cases htu : t = u
      · rw [if_pos htu] at hz; cases hz; exact hxa
      · rw [if_neg htu] at hz; cases hz
    | number _ _ _ => rw [hb] at hz; cases hz; exact hxa
  | number s1 m1 p1 =>
    rw [ha] at hz hxa
    cases hb : double.read b with
    | nan _ _ => rw [hb] at hz; cases hz
    | infinity u => rw [hb] at hz hyb; cases hz; exact hyb
    | number s2 m2 p2 =>
      rw [hb] at hz hyb
      have sg : ∀ (s : Bool) (m u : Nat), (s = false ∨ m = 0) → signed s m u = ((m * 2 ^ u : Nat) : Int) := by
        intro s m u h
        unfold signed
        rw [Nat.shiftLeft_eq]
        rcases h with h | h <;> subst h <;> simp
      simp only [Datum.sum, Option.some.injEq] at hz
      subst hz
      rw [sg _ _ _ hxa, sg _ _ _ hyb]
      by_cases h0 : (((m1 * 2 ^ (p1 - min p1 p2).toNat : Nat) : Int) + ((m2 * 2 ^ (p2 - min p1 p2).toNat : Nat) : Int)) = 0
      · refine .inr ?_
        rw [h0]; rfl
      · refine .inl ?_
        rw [if_neg h0]
        exact decide_eq_false (Int.not_lt.2 (Int.add_nonneg (Int.natCast_nonneg _) (Int.natCast_nonneg _)))

theorem sq_lo {g : Int} {x : Option Nat} (h : AbsLo g x) (h1 : -511 ≤ g) : Lo (2 * g) (fop .mul .f64 x x) := by
  obtain ⟨b, s, m, p, rfl, hr, hm, hg⟩ := h
  refine lo_map (d := (double.read b).product (double.read b)) (fun z hz => ?_) (by omega)
  rw [hr] at hz
  cases hz
  refine ⟨Nat.mul_ne_zero hm hm, ?_⟩
  have := log2_sq hm (Nat.le_refl (m * m))
  omega

theorem quo_lo {d e : Int} {x y : Option Nat} (hx : Lo d x) (hy : PosW y) (hle : Le e y) (h1 : -1022 ≤ d - e) : Lo (d - e) (fop .quo .f64 x y) := by
  obtain ⟨b, n, j, rfl, hr, hn⟩ := hy
  have hl := hle b rfl
  rw [hr] at hl
  cases x with
  | none => exact lo_none
  | some a =>
    refine lo_map (d := (double.read a).quotient 54 (double.read b)) (fun z hz => ?_) h1
    have hxa := hx a rfl
    rw [hr] at hz
    cases ha : double.read a with
    | nan _ _ => rw [ha] at hz; cases hz
    | infinity t => rw [ha] at hz; cases hz; trivial
    | number s m i =>
      rw [ha] at hz hxa
      obtain ⟨hm, hd⟩ := hxa
      simp only [Datum.quotient, if_neg hn, Option.some.injEq] at hz
      subst hz
      rcases hl with hl | ⟨hl1, hl2⟩
      · exact absurd hl hn
      · generalize hk : 54 + n.log2 - m.log2 = k
        have hbt : ∀ b : Bool, b.toNat ≤ 1 := by decide
        -- n ≤ 2 ^ (e - j), 2 ^ log m ≤ m
        have hq : 2 ^ (m.log2 + k - (e - j).toNat) ≤ m <<< k / n := by
          rw [Nat.le_div_iff_mul_le (Nat.pos_of_ne_zero hn), Nat.shiftLeft_eq]
          by_cases hs : (e - j).toNat ≤ m.log2 + k
          · calc 2 ^ (m.log2 + k - (e - j).toNat) * n ≤ 2 ^ (m.log2 + k - (e - j).toNat) * 2 ^ (e - j).toNat := Nat.mul_le_mul_left _ hl2
              _ = 2 ^ (m.log2 + k) := by rw [← Nat.pow_add]; congr 1; omega
              _ = 2 ^ m.log2 * 2 ^ k := Nat.pow_add ..
              _ ≤ m * 2 ^ k := Nat.mul_le_mul_right _ (pow_log2_le hm)
          · -- then n is less than the dividend anyhow
            have hnl := lt_pow_log2 n
            have e0 : m.log2 + k - (e - j).toNat = 0 := by omega
            rw [e0, Nat.pow_zero, Nat.one_mul]
            calc n ≤ 2 ^ (n.log2 + 1) := Nat.le_of_lt hnl
              _ ≤ 2 ^ (m.log2 + k) := Nat.pow_le_pow_right (by decide) (by omega)
              _ = 2 ^ m.log2 * 2 ^ k := Nat.pow_add ..
              _ ≤ m * 2 ^ k := Nat.mul_le_mul_right _ (pow_log2_le hm)
        have hp := Nat.two_pow_pos (m.log2 + k - (e - j).toNat)
        generalize ((m <<< k) % n != 0).toNat = c
        generalize (m <<< k) / n = q at *
        have hne : 2 * q + c ≠ 0 := by omega
        refine ⟨hne, ?_⟩
        have hlog : m.log2 + k - (e - j).toNat + 1 ≤ (2 * q + c).log2 := by
          rw [Nat.le_log2 hne, Nat.pow_succ]
          omega
        have hlog2 : (54 + n.log2 : Nat) ≤ m.log2 + k := by omega
        omega
end Go.H

/- A sum of squares of differences over a sum of squares is not too great. -/
set_option linter.unusedVariables false
namespace Go.H
open Go Ieee

def Zw (x : Option Nat) : Prop := ∃ b s p, x = some b ∧ double.read b = .number s 0 p

theorem zero_term {u v : Option Nat} (hu : Zw u) (hv : PosW v) : fop .quo .f64 (fop .mul .f64 u u) v = some 0 := by
  obtain ⟨b, s, p, rfl, hr⟩ := hu
  obtain ⟨a, m, q, rfl, ha, hm⟩ := hv
  have h1 : fop .mul .f64 (some b) (some b) = some 0 := by
    show ((double.read b).product (double.read b)).map double.write = some 0
    rw [hr]
    show some (double.nearest (s ^^ s) (0 * 0) (p + p)) = some 0
    rw [Bool.xor_self]
    unfold Format.nearest
    rfl
  rw [h1]
  show ((double.read 0).quotient 54 (double.read a)).map double.write = some 0
  have h0 : double.read 0 = .number false 0 (-1074) := by decide
  rw [h0, ha]
  simp only [Datum.quotient, if_neg hm, Option.map_some]
  have e : 2 * ((0 <<< (54 + m.log2 - (0 : Nat).log2)) / m) + ((0 <<< (54 + m.log2 - (0 : Nat).log2)) % m != 0).toNat = 0 := by
    rw [Nat.zero_shiftLeft, Nat.zero_div, Nat.zero_mod]; rfl
  rw [e]
  show some (double.nearest (false ^^ false) 0 _) = some 0
  unfold Format.nearest
  rfl

theorem add_zero64 : fop .add .f64 (some 0) (some 0) = some 0 := by decide +kernel

theorem zw_le {x : Option Nat} (h : Zw x) (e : Int) : Le e x := by
  obtain ⟨b, s, p, rfl, hr⟩ := h
  intro b' hb
  cases hb
  rw [hr]
  exact .inl rfl

theorem exp_le {x : Option Nat} {b : Nat} {s : Bool} {m : Nat} {p e : Int} (hx : x = some b) (hr : double.read b = .number s m p) (he : (m.log2 : Int) + p < e) : Le e x := by
  intro b' hb
  rw [hx] at hb
  cases hb
  rw [hr]
  exact BdD.le (.inr he)

theorem max_exp (W : Nat → Option Nat) : ∀ n, (∀ i, i < n → FinW (W i)) → (∀ i, i < n → Zw (W i)) ∨ ∃ j g, j < n ∧ (∀ i, i < n → Le (g + 1) (W i)) ∧ ∃ b s m p, W j = some b ∧ double.read b = .number s m p ∧ m ≠ 0 ∧ g = (m.log2 : Int) + p
  | 0, _ => .inl fun i hi => absurd hi (by omega)
  | n + 1, hf => by
    obtain ⟨b, s, m, p, hb, hr⟩ := hf n (by omega)
    rcases max_exp W n (fun i hi => hf i (by omega)) with hz | ⟨j, g, hj, hle, hw⟩
    · by_cases hm : m = 0
      · subst hm
        refine .inl fun i hi => ?_
        by_cases h : i = n
        · subst h; exact ⟨b, s, p, hb, hr⟩
        · exact hz i (by omega)
      · refine .inr ⟨n, (m.log2 : Int) + p, by omega, fun i hi => ?_, b, s, m, p, hb, hr, hm, rfl⟩
        by_cases h : i = n
        · subst h; exact exp_le hb hr (by omega)
        · exact zw_le (hz i (by omega)) _
    · by_cases hm : m = 0
      · subst hm
        refine .inr ⟨j, g, by omega, fun i hi => ?_, hw⟩
        by_cases h : i = n
        · subst h; exact zw_le ⟨b, s, p, hb, hr⟩ _
        · exact hle i (by omega)
      · by_cases hg : (m.log2 : Int) + p ≤ g
        · refine .inr ⟨j, g, by omega, fun i hi => ?_, hw⟩
          by_cases h : i = n
          · subst h; exact exp_le hb hr (by omega)
          · exact hle i (by omega)
        · refine .inr ⟨n, (m.log2 : Int) + p, by omega, fun i hi => ?_, b, s, m, p, hb, hr, hm, rfl⟩
          by_cases h : i = n
          · subst h; exact exp_le hb hr (by omega)
          · exact (hle i (by omega)).mono (by omega)

theorem wid_range (x : Option Nat) {b : Nat} {s : Bool} {m : Nat} {p : Int} (h : wid x = some b) (hr : double.read b = .number s m p) (hm : m ≠ 0) : -149 ≤ (m.log2 : Int) + p ∧ (m.log2 : Int) + p < 130 := by
  have hi := Bi.wid x b h
  rw [hr] at hi
  refine ⟨?_, hi.resolve_left hm⟩
  cases x with
  | none => cases h
  | some a =>
    rcases wid_cases a with ⟨s', m', p', h1, hm', h2, h3, h4⟩ | ⟨s', h1, h2⟩ | ⟨s', t, h1, h2⟩
    · rw [h4] at h
      cases h
      by_cases h0 : m' = 0
      · subst h0
        rw [read_write_zero] at hr
        cases hr
        exact absurd rfl hm
      · have a := write_lo double (e := -149) (s := s') (m := m') (p := p') ⟨h0, by have := Nat.zero_le m'.log2; omega⟩ (by decide) (by decide)
        rw [hr] at a
        exact a.2
    · rw [h2] at h
      cases h
      rw [read_write_inf] at hr
      cases hr
    · rw [h2] at h; cases h

theorem LoD.mono {d e : Int} {z : Datum} (h : LoD e z) (hd : d ≤ e) : LoD d z := by
  cases z with
  | number s m p => exact ⟨h.1, by have := h.2; omega⟩
  | infinity _ => trivial
  | nan _ _ => exact h

theorem sum_comm (x y : Datum) : x.sum y = y.sum x := by
  cases x with
  | nan _ _ => cases y <;> rfl
  | infinity s =>
    cases y with
    | nan _ _ => rfl
    | number _ _ _ => rfl
    | infinity t =>
      simp only [Datum.sum]
      by_cases h : s = t
      · subst h; rfl
      · rw [if_neg h, if_neg (Ne.symm h)]
  | number s m i =>
    cases y with
    | nan _ _ => rfl
    | infinity _ => rfl
    | number t n j =>
      simp only [Datum.sum]
      rw [Int.min_comm, Int.add_comm, Bool.and_comm]

theorem add_comm64 (x y : Option Nat) : fop .add .f64 x y = fop .add .f64 y x := by
  cases x with
  | none => cases y <;> rfl
  | some a => cases y with
    | none => rfl
    | some b =>
      show ((double.read a).sum (double.read b)).map double.write = ((double.read b).sum (double.read a)).map double.write
      rw [sum_comm]

theorem add_lo {d : Int} {x y : Option Nat} (hx : Lo d x) (hxn : Nn x) (hy : Nn y) (h1 : -1022 ≤ d) : Lo d (fop .add .f64 x y) := by
  cases x with
  | none => exact lo_none
  | some a => cases y with
    | none => exact lo_none
    | some b =>
      refine lo_map (d := (double.read a).sum (double.read b)) (fun z hz => ?_) h1
      have ha := hx a rfl
      have hn := hxn a rfl
      have hb := hy b rfl
      cases hr : double.read a with
      | nan _ _ => rw [hr] at hz; cases hz
      | infinity t =>
        rw [hr] at hz
        cases hs : double.read b with
        | nan _ _ => rw [hs] at hz; cases hz
        | number _ _ _ => rw [hs] at hz; cases hz; trivial
        | infinity u =>
          rw [hs] at hz
          simp only [Datum.sum] at hz
          by_cases h : t = u
          · rw [if_pos h] at hz; cases hz; trivial
          · rw [if_neg h] at hz; cases hz
      | number s m i =>
        rw [hr] at hz ha hn
        obtain ⟨hm, hd⟩ := ha
        have hs : s = false := hn.resolve_right hm
        subst hs
        exact (sum_lo hm hb hz).mono hd

theorem quo_inf {x : Option Nat} {b : Nat} {t : Bool} (hb : double.read b = .infinity t) : Le 0 (fop .quo .f64 x (some b)) := by
  cases x with
  | none => exact le_none
  | some a =>
    refine le_map (d := (double.read a).quotient 54 (double.read b)) (fun z hz => ?_) (by omega) (by omega)
    rw [hb] at hz
    cases hr : double.read a with
    | nan _ _ => rw [hr] at hz; cases hz
    | infinity _ => rw [hr] at hz; cases hz
    | number _ _ _ => rw [hr] at hz; cases hz; exact .inl rfl

/-- so many rounds -/
def roundsN {S : Type} (f : Nat → S → S) : Nat → S → S
  | 0, s => s
  | k + 1, s => f k (roundsN f k s)
theorem roundsN_inv {S : Type} {f : Nat → S → S} (I : Nat → S → Prop) {s : S} (h0 : I 0 s) : ∀ n, (∀ k s, k < n → I k s → I (k + 1) (f k s)) → I n (roundsN f n s)
  | 0, _ => h0
  | n + 1, h => h n _ (by omega) (roundsN_inv I h0 n fun k s hk => h k s (by omega))

theorem ray_fcv (W V : Nat → Option Nat) (n : Nat) (A : Option Nat) (hV : ∀ i, i < n → PosW (V i) ∧ Le 0 (V i))
    (hR : ∀ i b s m p, W i = some b → double.read b = .number s m p → m ≠ 0 → -149 ≤ (m.log2 : Int) + p ∧ (m.log2 : Int) + p < 130)
    (hA : ∀ e : Int, -200 ≤ e → e ≤ 200 → (∀ i, i < n → Le e (W i)) → Lc 512 (2 * e + 2) A)
    (hB : fcmp .gtr .f64 (roundsN (fun i s => fop .add .f64 s (fop .quo .f64 (fop .mul .f64 (W i) (W i)) (V i))) n (some 0)) (some 0) = true) :
    ∃ y, fcv .f64 .f32 (fop .quo .f64 (fop .quo .f64 A (some 4611686018427387904)) (roundsN (fun i s => fop .add .f64 s (fop .quo .f64 (fop .mul .f64 (W i) (W i)) (V i))) n (some 0))) = some y := by
  generalize hBe : roundsN (fun i s => fop .add .f64 s (fop .quo .f64 (fop .mul .f64 (W i) (W i)) (V i))) n (some 0) = B at *
  cases B with
  | none => cases hB
  | some b =>
    cases hr : double.read b with
    | nan s t =>
      have : fcmp .gtr .f64 (some b) (some 0) = false := by
        show (((double.read b).order (double.read 0)) == some .gt) = false
        rw [hr]; rfl
      rw [this] at hB; cases hB
    | infinity t => exact Le.fcv (quo_inf hr) (by omega)
    | number s m p =>
      have hfin : ∀ i, i < n → FinW (W i) := by
        have I := roundsN_inv (f := fun i s => fop .add .f64 s (fop .quo .f64 (fop .mul .f64 (W i) (W i)) (V i))) (fun k s => FinW s → ∀ i, i < k → FinW (W i)) (s := some 0) (fun _ i hi => absurd hi (by omega)) n (fun k s hk ih hs i hi => by
          obtain ⟨h1, h2⟩ := add_fin hs
          by_cases h : i = k
          · subst h; exact sq_fin (quo_fin (hV i hk).1 h2)
          · exact ih h1 i (by omega))
        rw [hBe] at I
        exact I ⟨b, s, m, p, rfl, hr⟩
      rcases max_exp W n hfin with hz | ⟨j, g, hj, hle, b', s', m', p', hw, hr', hm', hg⟩
      · have I := roundsN_inv (f := fun i s => fop .add .f64 s (fop .quo .f64 (fop .mul .f64 (W i) (W i)) (V i))) (fun _ s => s = some 0) (s := some 0) rfl n (fun k s hk ih => by
          rw [ih, zero_term (hz k hk) (hV k hk).1, add_zero64])
        rw [hBe] at I
        rw [I] at hB
        exact absurd hB (by decide)
      · have hrg := hR j b' s' m' p' hw hr' hm'
        have hLo : Nn (some b) ∧ (j < n → Lo (2 * g - 0) (some b)) := by
          have I := roundsN_inv (f := fun i s => fop .add .f64 s (fop .quo .f64 (fop .mul .f64 (W i) (W i)) (V i))) (fun k s => Nn s ∧ (j < k → Lo (2 * g - 0) s)) (s := some 0) ⟨fun b hb => by cases hb; exact .inr (by decide), fun h => absurd h (by omega)⟩ n (fun k s hk ih => by
            have hn2 := quo_nn (sq_nn (W k)) (hV k hk).1
            refine ⟨add_nn ih.1 hn2, fun hjk => ?_⟩
            by_cases h : j < k
            · exact add_lo (ih.2 h) ih.1 hn2 (by omega)
            · have hjk' : j = k := by omega
              subst hjk'
              rw [add_comm64]
              exact add_lo (quo_lo (sq_lo ⟨b', s', m', p', hw, hr', hm', by omega⟩ (by omega)) (hV j hk).1 (hV j hk).2 (by omega)) hn2 ih.1 (by omega))
          rw [hBe] at I
          exact I
        have hA' := hA (g + 1) (by omega) (by omega) hle
        have h2 : Lo 1 (some 4611686018427387904) := lo_const 1 _ (by
          have : double.read 4611686018427387904 = .number false 4503599627370496 (-51) := by decide
          rw [this]; exact ⟨by decide, by decide⟩)
        have h3 := Le.quo (hA'.le (k := 9) (by decide) (by omega)) h2 (by omega) (by omega)
        have h4 := Le.quo h3 (hLo.2 hj) (by omega) (by omega)
        exact Le.fcv h4 (by omega)

/-- a speed: positive, at most a half -/
theorem speed_pos {v : Option Nat} (h1 : fcmp .gtr .f32 v (some 0) = true) (h2 : fcmp .leq .f32 v (some 1056964608) = true) : PosW (wid v) ∧ Le 0 (wid v) := by
  cases v with
  | none => cases h1
  | some b =>
    have r0 : single.read 0 = .number false 0 (-149) := by decide
    have rh : single.read 1056964608 = .number false 8388608 (-24) := by decide
    have g1 : ((single.read b).order (single.read 0) == some .gt) = true := h1
    have g2 : ((single.read b).order (single.read 1056964608) == some .lt || (single.read b).order (single.read 1056964608) == some .eq) = true := h2
    rw [r0] at g1
    rw [rh] at g2
    rcases wid_cases b with ⟨s, m, p, hr, hm, hp1, hp2, hw⟩ | ⟨s, hr, hw⟩ | ⟨s, t, hr, hw⟩
    · rw [hr] at g1 g2
      simp only [Datum.order] at g1 g2
      have e1 : ∀ x y : Int, (some (compare x y) == some Ordering.gt) = true → y < x := by
        intro x y hh
        rw [cmp_gtr] at hh
        simpa using hh
      have e2 : ∀ x y : Int, (some (compare x y) == some Ordering.lt || some (compare x y) == some Ordering.eq) = true → x ≤ y := by
        intro x y hh
        rw [cmp_leq] at hh
        simpa using hh
      have g1 := e1 _ _ g1
      have g2 := e2 _ _ g2
      rw [signed_eq, signed_eq] at g1 g2
      have hs : s = false := by
        cases s with
        | false => rfl
        | true =>
          exfalso
          simp only [if_true, Bool.false_eq_true, if_false] at g1
          have := Int.natCast_nonneg (m * 2 ^ (p - min p (-149)).toNat)
          rw [Nat.zero_mul] at g1
          omega
      subst hs
      simp only [Bool.false_eq_true, if_false] at g1 g2
      have hm0 : m ≠ 0 := by
        intro h
        subst h
        rw [Nat.zero_mul, Nat.zero_mul] at g1
        omega
      have g2' : m * 2 ^ (p - min p (-24)).toNat ≤ 8388608 * 2 ^ (-24 - min p (-24)).toNat := Int.ofNat_le.1 g2
      have e8 : (8388608 : Nat) = 2 ^ 23 := by decide
      rw [e8, ← Nat.pow_add] at g2'
      have hpl : p ≤ -1 := by
        refine Classical.byContradiction fun hh => ?_
        have : 2 ^ (23 + (-24 - min p (-24)).toNat) < 2 ^ (p - min p (-24)).toNat := Nat.pow_lt_pow_right (by decide) (by omega)
        have := Nat.le_mul_of_pos_left (2 ^ (p - min p (-24)).toNat) (show 0 < m by omega)
        omega
      have hval : m ≤ 2 ^ (0 - p).toNat := by
        by_cases hc : p ≤ -24
        · have ee : (p - min p (-24)).toNat = 0 := by omega
          rw [ee, Nat.pow_zero, Nat.mul_one] at g2'
          exact Nat.le_trans g2' (Nat.pow_le_pow_right (by decide) (by omega))
        · have ee : (-24 - min p (-24)).toNat = 0 := by omega
          rw [ee] at g2'
          have e3 : 2 ^ (23 + 0) = 2 ^ (-1 - p).toNat * 2 ^ (p - min p (-24)).toNat := by rw [← Nat.pow_add]; congr 1; omega
          rw [e3] at g2'
          exact Nat.le_trans (Nat.le_of_mul_le_mul_right g2' (Nat.two_pow_pos _)) (Nat.pow_le_pow_right (by decide) (by omega))
      have hle := write_le (e := 0) (s := false) (m := m) (p := p) (.inr ⟨by omega, hval⟩) (by omega) (by omega)
      have hlo := write_lo double (e := -149) (s := false) (m := m) (p := p) ⟨hm0, by have := Nat.zero_le m.log2; omega⟩ (by decide) (by decide)
      have hsg := (read_nearest_sign false m p).1
      have hsg : (double.read (double.write (.number false m p))).neg = false := hsg
      rw [hw]
      refine ⟨?_, fun b' hb => by cases hb; exact hle⟩
      cases hrd : double.read (double.write (.number false m p)) with
      | number s' m' p' =>
        rw [hrd] at hlo hsg
        have : s' = false := hsg
        subst this
        exact ⟨_, m', p', rfl, hrd, hlo.1⟩
      | infinity _ => rw [hrd] at hle; exact absurd hle (by intro h; exact h)
      | nan _ _ => rw [hrd] at hle; exact absurd hle (by intro h; exact h)
    · rw [hr] at g1 g2
      cases s with
      | true => cases g1
      | false => cases g2
    · rw [hr] at g1; cases g1
end Go.H
