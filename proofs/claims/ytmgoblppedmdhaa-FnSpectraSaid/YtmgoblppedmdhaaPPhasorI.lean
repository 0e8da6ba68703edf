/- Points of the unit circle: what the program computes, and that it comes to an end. -/
import Derived.Test.YtmgoblppedmdhaaPSineI
set_option linter.unusedVariables false
namespace Go.H
open Go Ieee

/-- a number that is not above '2 ^ e' -/
def Num (e : Int) (x : Option Nat) : Prop := ∃ b, x = some b ∧ LeD e (double.read b)
def Fit (x : Option Nat) : Prop := ∃ b s m p, x = some b ∧ double.read b = .number s m p

theorem Num.fit {e : Int} {x : Option Nat} (h : Num e x) : Fit x := by
  obtain ⟨b, rfl, hb⟩ := h
  cases hd : double.read b with
  | number s m p => exact ⟨b, s, m, p, rfl, hd⟩
  | infinity s => rw [hd] at hb; exact hb.elim
  | nan s t => rw [hd] at hb; exact hb.elim
theorem Num.le {e : Int} {x : Option Nat} (h : Num e x) : Le e x := by
  obtain ⟨b, rfl, hb⟩ := h
  intro c hc
  cases hc
  exact hb
theorem Num.of {e : Int} {x : Option Nat} (h : ∃ b, x = some b) (hl : Le e x) : Num e x := by
  obtain ⟨b, rfl⟩ := h
  exact ⟨b, rfl, hl b rfl⟩

theorem read_dbl {b : Nat} {s : Bool} {m : Nat} {i : Int} (h : double.read b = .number s m i) : m < 9007199254740992 ∧ -1074 ≤ i := by
  have hL : double.leastPlace = -1074 := by decide
  have hb : double.binade = 4503599627370496 := by decide
  unfold Format.read at h
  dsimp only at h
  split at h
  · cases h; omega
  · split at h
    · cases h
      have := Nat.mod_lt (b % double.signWeight) (show 0 < double.binade by decide)
      omega
    · split at h <;> cases h

/-- a sum of a number and what is no not-a-number -/
theorem sum_some {x y : Option Nat} (hx : Fit x) (hy : ∃ c, y = some c ∧ (double.read c).isNaN = false) : ∃ r, fop .add .f64 x y = some r := by
  obtain ⟨b, s, m, p, rfl, hb⟩ := hx
  obtain ⟨c, rfl, hc⟩ := hy
  show ∃ r, ((double.read b).sum (double.read c)).map double.write = some r
  rw [hb]
  revert hc
  cases double.read c with
  | nan _ _ => intro h; cases h
  | infinity t => intro _; exact ⟨_, rfl⟩
  | number t n j => intro _; exact ⟨_, rfl⟩
theorem dif_some {x y : Option Nat} (hx : Fit x) (hy : ∃ c, y = some c ∧ (double.read c).isNaN = false) : ∃ r, fop .sub .f64 x y = some r := by
  obtain ⟨b, s, m, p, rfl, hb⟩ := hx
  obtain ⟨c, rfl, hc⟩ := hy
  show ∃ r, ((double.read b).sum (double.read c).opposite).map double.write = some r
  rw [hb]
  revert hc
  cases double.read c with
  | nan _ _ => intro h; cases h
  | infinity t => intro _; exact ⟨_, rfl⟩
  | number t n j => intro _; exact ⟨_, rfl⟩
theorem Fit.nn {x : Option Nat} (h : Fit x) : ∃ c, x = some c ∧ (double.read c).isNaN = false := by
  obtain ⟨b, s, m, p, rfl, hb⟩ := h
  exact ⟨b, rfl, by rw [hb]; rfl⟩

def size64 (x : Option Nat) : Nat := match double.read (x.getD 0) with
  | .number _ m p => m * 2 ^ (p + 1074).toNat
  | _ => 0

theorem two_pow_split {a b : Nat} (h : a ≤ b) : 2 ^ b = 2 ^ a * 2 ^ (b - a) := by rw [← Nat.pow_add]; congr 1; omega

/-- a number is laid down as it stands -/
theorem laid {t : Nat} (ht : t ≠ 0) {p : Int} (h1 : t < 9007199254740992) (hp : -1074 ≤ p) (hp2 : p ≤ 0) : ∃ m q, double.read (double.nearest false t p) = .number false m q ∧ m * 2 ^ (q + 1074).toNat = t * 2 ^ (p + 1074).toNat ∧ q ≤ p ∧ m = t * 2 ^ (p - q).toNat := by
  obtain ⟨h, hl⟩ := read_exact false ht (show t < 2 ^ 53 by omega) hp (by omega)
  generalize max (p + (t.log2 : Int) - 52) (-1074) = q at *
  have hq : -1074 ≤ q ∨ q < -1074 := by omega
  refine ⟨_, q, h, ?_, hl, Nat.shiftLeft_eq ..⟩
  rw [Nat.shiftLeft_eq, Nat.mul_assoc, ← Nat.pow_add]
  rcases hq with hq | hq
  · congr 2; omega
  · -- the least place is the least
    exfalso
    have := (read_dbl h).2
    omega

theorem quarter_step {x : Option Nat} (h : Num 0 x) (hg : fcmp .geq .f64 x (some 4598175219545276416) = true) : Num 0 (fop .sub .f64 x (some 4598175219545276416)) ∧ size64 (fop .sub .f64 x (some 4598175219545276416)) < size64 x := by
  have hsg := Sg.geq quarter_read hg
  obtain ⟨b, rfl, hb⟩ := h
  have rq : double.read 4598175219545276416 = .number false 4503599627370496 (-54) := by decide
  cases hd : double.read b with
  | infinity s => rw [hd] at hb; exact hb.elim
  | nan s t => rw [hd] at hb; exact hb.elim
  | number s m p =>
    have hs : s = false := by have := hsg b rfl; rw [hd] at this; exact this
    subst hs
    obtain ⟨hm, hp⟩ := read_dbl hd
    have hg' : ((double.read b).order (double.read 4598175219545276416) == some .gt || (double.read b).order (double.read 4598175219545276416) == some .eq) = true := hg
    rw [hd, rq] at hg'
    rw [hd] at hb
    simp only [Datum.order, cmp_geq, signed_eq, Bool.false_eq_true, if_false, decide_eq_true_eq] at hg'
    have hp54 : -54 ≤ p := by
      refine Classical.byContradiction fun hn => ?_
      have e1 : min p (-54) = p := by omega
      rw [e1] at hg'
      have e2 : (p - p).toNat = 0 := by omega
      rw [e2, Nat.pow_zero, Nat.mul_one] at hg'
      obtain ⟨k, hk⟩ : ∃ k, (-54 - p).toNat = k + 1 := ⟨(-54 - p).toNat - 1, by omega⟩
      rw [hk, Nat.pow_succ] at hg'
      have := Nat.two_pow_pos k
      have : 4503599627370496 * (1 * 2) ≤ 4503599627370496 * (2 ^ k * 2) := Nat.mul_le_mul_left _ (by omega)
      omega
    have e1 : min p (-54) = -54 := by omega
    rw [e1] at hg'
    have e2 : ((-54 : Int) - -54).toNat = 0 := by decide
    rw [e2, Nat.pow_zero, Nat.mul_one] at hg'
    have e3 : (p - -54).toNat = (p + 54).toNat := by congr 1
    rw [e3] at hg'
    -- in units of the quarter's last place
    obtain ⟨j, hj⟩ : ∃ j, m * 2 ^ (p + 54).toNat = j := ⟨_, rfl⟩
    rw [hj] at hg'
    have hj52 : 4503599627370496 ≤ j := by omega
    have hm0 : m ≠ 0 := by intro h0; subst h0; simp at hj; omega
    have hb : p ≤ 0 ∧ m ≤ 2 ^ (0 - p).toNat := by rcases hb with h | h; exact absurd h hm0; exact h
    have hj54 : j ≤ 18014398509481984 := by
      rw [← hj]
      calc m * 2 ^ (p + 54).toNat ≤ 2 ^ (0 - p).toNat * 2 ^ (p + 54).toNat := Nat.mul_le_mul_right _ hb.2
        _ = 2 ^ ((0 - p).toNat + (p + 54).toNat) := by rw [Nat.pow_add]
        _ = 2 ^ 54 := by congr 1; omega
        _ ≤ _ := by decide
    obtain ⟨K, hK⟩ : ∃ K : Nat, K = 1020 := ⟨_, rfl⟩
    have hsz : size64 (some b) = j * 2 ^ K := by
      unfold size64
      rw [Option.getD_some, hd]
      show m * 2 ^ (p + 1074).toNat = _
      rw [← hj, show (p + 1074).toNat = (p + 54).toNat + K by omega, Nat.pow_add, Nat.mul_assoc]
    have hsum : (double.read b).sum (double.read 4598175219545276416).opposite = some (.number false (j - 4503599627370496) (-54)) := by
      rw [hd, rq]
      show some (Datum.number (if signed false m (p - min p (-54)).toNat + signed true 4503599627370496 (-54 - min p (-54)).toNat = 0 then false && true else decide (signed false m (p - min p (-54)).toNat + signed true 4503599627370496 (-54 - min p (-54)).toNat < 0)) (signed false m (p - min p (-54)).toNat + signed true 4503599627370496 (-54 - min p (-54)).toNat).natAbs (min p (-54))) = _
      rw [e1, e2, e3, signed_eq, signed_eq, hj]
      simp only [Bool.false_eq_true, if_false, if_true, Nat.pow_zero, Nat.mul_one]
      have hn : ¬ ((j : Int) + -((4503599627370496 : Nat) : Int) < 0) := by omega
      have hna : ((j : Int) + -((4503599627370496 : Nat) : Int)).natAbs = j - 4503599627370496 := by omega
      rw [hna]
      congr 2
      split
      · rfl
      · rw [decide_eq_false_iff_not]; omega
    have hres : fop .sub .f64 (some b) (some 4598175219545276416) = some (double.nearest false (j - 4503599627370496) (-54)) := by
      show ((double.read b).sum (double.read 4598175219545276416).opposite).map double.write = _
      rw [hsum]; rfl
    rw [hres, hsz]
    obtain ⟨t, ht⟩ : ∃ t, j - 4503599627370496 = t := ⟨_, rfl⟩
    rw [ht]
    by_cases h0 : t = 0
    · have hr : double.read (double.nearest false t (-54)) = .number false 0 (-1074) := by subst h0; exact read_write_zero false (-54)
      refine ⟨⟨_, rfl, by rw [hr]; exact .inl rfl⟩, ?_⟩
      unfold size64
      rw [Option.getD_some, hr]
      show 0 * _ < _
      rw [Nat.zero_mul]
      exact Nat.mul_pos (by omega) (Nat.two_pow_pos _)
    · -- the same number with at most 53 digits
      obtain ⟨t', a, ha, ht', hlt⟩ : ∃ t' a : Nat, a ≤ 1 ∧ t = t' * 2 ^ a ∧ t' < 9007199254740992 := by
        by_cases hlt : t < 9007199254740992
        · exact ⟨t, 0, by omega, by simp, hlt⟩
        · obtain ⟨u, hu⟩ : ∃ u, (p + 54).toNat = u + 1 := by
            refine ⟨(p + 54).toNat - 1, ?_⟩
            have : (p + 54).toNat ≠ 0 := by
              intro h0
              rw [h0, Nat.pow_zero, Nat.mul_one] at hj
              omega
            omega
          rw [hu, Nat.pow_succ, ← Nat.mul_assoc] at hj
          exact ⟨m * 2 ^ u - 2251799813685248, 1, by omega, by omega, by omega⟩
      have h0' : t' ≠ 0 := by intro h; subst h; simp at ht'; exact h0 ht'
      have hnear : double.nearest false t (-54) = double.nearest false t' (-54 + a) := by
        rw [ht']
        have := nearest_mul double false t' a (-54 + a)
        rw [show (-54 : Int) + a - a = -54 by omega] at this
        exact this
      obtain ⟨n, q, hr, hv, hq, hn⟩ := laid h0' hlt (p := -54 + a) (by omega) (by omega)
      rw [hnear]
      refine ⟨⟨_, rfl, ?_⟩, ?_⟩
      · rw [hr]
        refine .inr ⟨by omega, ?_⟩
        rw [hn]
        have h53 : t' ≤ 2 ^ 53 := Nat.le_trans (Nat.le_of_lt hlt) (by decide)
        calc t' * 2 ^ (-54 + (a : Int) - q).toNat ≤ 2 ^ 53 * 2 ^ (-54 + (a : Int) - q).toNat := Nat.mul_le_mul_right _ h53
          _ = 2 ^ (53 + (-54 + (a : Int) - q).toNat) := by rw [Nat.pow_add]
          _ ≤ 2 ^ (0 - q).toNat := Nat.pow_le_pow_right (by decide) (by omega)
      · unfold size64
        rw [Option.getD_some, hr]
        show n * 2 ^ (q + 1074).toNat < _
        rw [hv]
        have : t' * 2 ^ (-54 + (a : Int) + 1074).toNat = t * 2 ^ K := by
          rw [ht', show (-54 + (a : Int) + 1074).toNat = a + K by omega, Nat.pow_add, Nat.mul_assoc]
        rw [this]
        exact Nat.mul_lt_mul_of_pos_right (by omega) (Nat.two_pow_pos _)

theorem quarters (f : Option Nat) (hf : Num 0 f) : ∃ e : (Option Nat) × Int × Bool, loopF (fun (s : ((Option Nat) × Int)) => impl_PhasorOf.s0 s.1 s.2) (f, 0) = some e ∧ Num 0 e.1 := by
  refine loopF_meas (step := fun (s : ((Option Nat) × Int)) => impl_PhasorOf.s0 s.1 s.2) (fun s => Num 0 s.1) (fun e => Num 0 e.1) (fun s => size64 s.1) (fun s hs => ?_) (f, 0) hf
  obtain ⟨g, q⟩ := s
  simp only at hs ⊢
  unfold impl_PhasorOf.s0
  cases hc : fcmp .geq .f64 g (some 4598175219545276416) with
  | true =>
    obtain ⟨h1, h2⟩ := quarter_step hs hc
    exact .inl ⟨_, rfl, h1, h2⟩
  | false => exact .inr ⟨_, rfl, hs⟩

/-- a number that is small is finite, and below 2 ^ 52 -/
theorem Num.small {e : Int} {x : Option Nat} (h : Num e x) (he : e ≤ 51) : fin .f64 x = true ∧ fcmp .geq .f64 (fabs x) (some 4841369599423283200) = false := by
  obtain ⟨b, rfl, hb⟩ := h
  cases hd : double.read b with
  | infinity s => rw [hd] at hb; exact hb.elim
  | nan s t => rw [hd] at hb; exact hb.elim
  | number s m p =>
    constructor
    · show (match double.read b with | .number .. => true | _ => false) = true
      rw [hd]
    · show ((double.read (b % 2 ^ 63)).order (double.read 4841369599423283200) == some .gt || (double.read (b % 2 ^ 63)).order (double.read 4841369599423283200) == some .eq) = false
      have ec : double.read 4841369599423283200 = .number false 4503599627370496 0 := by decide
      rw [read_abs, ec, hd]
      simp only [Datum.order, cmp_geq, signed_eq, Bool.false_eq_true, if_false]
      rw [decide_eq_false_iff_not]
      rw [hd] at hb
      have hz := Nat.two_pow_pos (0 - min p 0).toNat
      rcases hb with h0 | ⟨h1, h2⟩
      · subst h0
        have := Nat.mul_pos (show 0 < 4503599627370496 by decide) hz
        omega
      · have h3 : m * 2 ^ (p - min p 0).toNat < 4503599627370496 * 2 ^ (0 - min p 0).toNat := by
          calc m * 2 ^ (p - min p 0).toNat ≤ 2 ^ (e - p).toNat * 2 ^ (p - min p 0).toNat := Nat.mul_le_mul_right _ h2
            _ = 2 ^ ((e - p).toNat + (p - min p 0).toNat) := by rw [Nat.pow_add]
            _ ≤ 2 ^ (51 + (0 - min p 0).toNat) := Nat.pow_le_pow_right (by decide) (by omega)
            _ = 2 ^ 51 * 2 ^ (0 - min p 0).toNat := by rw [Nat.pow_add]
            _ < _ := Nat.mul_lt_mul_of_pos_right (by decide) hz
        omega

theorem impl_sine_eq {x : Option Nat} (hf : fin .f64 x = true) (h1 : fcmp .geq .f64 (fabs x) (some 4841369599423283200) = false) : impl_sine x = some (sinWide x) := by
  unfold impl_sine impl_fraction sinWide
  obtain ⟨n, hn, hl⟩ := whole hf h1
  rw [hn, h1, hf]
  obtain ⟨i, b, e1⟩ := impl_sin (sinQuarter (sinHalf (sinPart (fop .sub .f64 x (fofi .f64 n)))))
  simp only [Bool.false_eq_true, if_false, some_bind', ite_some, Option.getD_some, Bool.true_eq_false]
  unfold sinQuarter sinHalf sinPart at e1
  simp only [e1, some_bind']
  rfl

theorem Num.cl {e : Int} {x : Option Nat} (h : Num e x) : Cl x := by
  obtain ⟨b, s, m, p, rfl, hb⟩ := h.fit
  intro c hc
  cases hc
  rw [hb]; rfl

theorem fcv_nan : fcv .f64 .f32 none = some none := rfl

theorem phasor_some (x : Option Nat) : ∃ r, impl_PhasorOf x = some r := by
  unfold impl_PhasorOf impl_isFinite64
  rw [fin_eql, NaN_eq]
  cases hf : fin .f64 x with
  | false => exact ⟨(none, none), rfl⟩
  | true =>
    simp only [Bool.not_true, Bool.false_eq_true, if_false, some_bind', math_Abs, ite_some]
    cases h1 : fcmp .geq .f64 (fabs x) (some 4841369599423283200) with
    | true => exact ⟨(some 1065353216, some 0), rfl⟩
    | false =>
      obtain ⟨n, hn, hl⟩ := whole hf h1
      have hfit : Fit x := by
        cases x with
        | none => cases hf
        | some b =>
          have hf : (match double.read b with | .number .. => true | _ => false) = true := hf
          cases hd : double.read b with
          | number s m p => exact ⟨b, s, m, p, rfl, hd⟩
          | infinity s => rw [hd] at hf; cases hf
          | nan s t => rw [hd] at hf; cases hf
      have hnum0 : Num 0 (fop .sub .f64 x (fofi .f64 n)) := Num.of (dif_some hfit ⟨_, rfl, (read_nearest_sign _ _ _).2⟩) hl
      have hnum : Num 0 (sinPart (fop .sub .f64 x (fofi .f64 n))) := by
        refine Num.of ?_ (sinPart_le hl)
        unfold sinPart
        split
        · exact sum_some hnum0.fit ⟨_, rfl, by decide⟩
        · obtain ⟨b, hb, _⟩ := hnum0; exact ⟨b, hb⟩
      obtain ⟨⟨f, q, bb⟩, hloop, hfn⟩ := quarters _ hnum
      simp only at hfn
      have hc : Num 1 (fop .sub .f64 (some 4598175219545276416) f) := Num.of (dif_some ⟨_, _, _, _, rfl, (show double.read 4598175219545276416 = .number false 4503599627370496 (-54) by decide)⟩ hfn.fit.nn) (Le.sub (e := 0) (le_const 0 _ (by decide)) hfn.le (by omega) (by omega))
      obtain ⟨c1, c2⟩ := hc.small (by omega)
      obtain ⟨s1, s2⟩ := hfn.small (by omega)
      have ec := impl_sine_eq c1 c2
      have es := impl_sine_eq s1 s2
      have bc := sinWide_le (fop .sub .f64 (some 4598175219545276416) f)
      have bs := sinWide_le f
      generalize sinWide (fop .sub .f64 (some 4598175219545276416) f) = c at *
      generalize sinWide f = s at *
      have z0 : Le 43 (some 0) := le_const 43 0 (by decide)
      obtain ⟨v1, k1⟩ := bc.fcv (by omega)
      obtain ⟨v2, k2⟩ := bs.fcv (by omega)
      obtain ⟨v3, k3⟩ := (Le.sub (e := 43) z0 bc (by omega) (by omega)).fcv (by omega)
      obtain ⟨v4, k4⟩ := (Le.sub (e := 43) z0 bs (by omega) (by omega)).fcv (by omega)
      unfold impl_fraction
      unfold sinPart at hloop
      simp only [hn, some_bind', ite_some, Bool.false_eq_true, if_false, hloop, ec, es]
      cases q1 : q == 1 with
      | true => exact ⟨(v4, v1), by simp [k1, k4]⟩
      | false => cases q2 : q == 2 with
        | true => exact ⟨(v3, v4), by simp [k3, k4]⟩
        | false => cases q3 : q == 3 with
          | true => exact ⟨(v2, v3), by simp [k2, k3]⟩
          | false => exact ⟨(v1, v2), by simp [k1, k2]⟩
end Go.H
