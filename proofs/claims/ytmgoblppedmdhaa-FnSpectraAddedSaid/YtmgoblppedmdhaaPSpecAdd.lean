/- Spectra that are added: the plain law. -/
import Derived.Test.YtmgoblppedmdhaaGSpecAdd
import Derived.Test.YtmgoblppedmdhaaPSpec
import Derived.Test.YtmgoblppedmdhaaPQs
import Derived.Test.YtmgoblppedmdhaaPCells
import Derived.Test.YtmgoblppedmdhaaLibI
set_option linter.unusedVariables false
set_option linter.unusedSectionVars false
namespace Go.H
open Go Ieee

/-- a constant of 64 bits, a little less than a thousandth -/
theorem milli : ∃ K, valf .f64 (some 4562254508917369340) = some K ∧ 2 ^ 2389 < K := by
  have h : (match valf .f64 (some 4562254508917369340) with | some K => decide ((2 : Int) ^ 2389 < K) | none => false) = true := by decide +kernel
  cases hK : valf .f64 (some 4562254508917369340) with
  | none => rw [hK] at h; cases h
  | some K => rw [hK] at h; exact ⟨K, rfl, of_decide_eq_true h⟩

theorem apart_small {u v : Option Nat × Option Nat} {a b c d : Int} (h1 : valf .f32 u.1 = some a) (h2 : valf .f32 v.1 = some b) (h3 : valf .f32 u.2 = some c) (h4 : valf .f32 v.2 = some d)
    (d1 : -(2 ^ 2388) ≤ a - b) (d2 : a - b ≤ 2 ^ 2388) (d3 : -(2 ^ 2388) ≤ c - d) (d4 : c - d ≤ 2 ^ 2388) : ∃ y, laws_r8Apart u v = some y ∧ fcmp .gtr .f64 y (some 4562254508917369340) = false := by
  obtain ⟨y, r, y1, y2, y3⟩ := apart_ok h1 h2 h3 h4 d1 d2 d3 d4
  obtain ⟨K, k1, k2⟩ := milli
  refine ⟨y, y1, ?_⟩
  rw [valf.gtr y2 k1]
  exact decide_eq_false (by omega)

theorem specZ_add (ph : Nat → Nat → Int) (n m : Nat) (g h : Nat → Int) (k : Nat) : specZ ph n m (fun i => g i + h i) k = specZ ph n m g k + specZ ph n m h k := by
  unfold specZ
  rw [← sumN_add]
  exact sumN_congr k fun i _ => Int.mul_add _ _ _

/-- thrice the error of a spectrum, and that of one sum -/
theorem err_sum : 30 * errE + 2 ^ 2384 ≤ 2 ^ 2388 := by rw [errE_eq]; decide +kernel
theorem err_pos : 0 ≤ errE := by rw [errE_eq]; exact Int.add_nonneg (inonneg _) (inonneg _)

/-- the parts of the sum of two spectra and of the spectrum of the sum -/
theorem added_part {x y : Option Nat} {a b c X Y : Int} {n : Nat} (hn : n ≤ 10) (hx : valf .f32 x = some a) (hy : valf .f32 y = some b) (a1 : X - n * errE ≤ a) (a2 : a ≤ X + n * errE) (b1 : Y - n * errE ≤ b) (b2 : b ≤ Y + n * errE) (c1 : (X + Y) - n * errE ≤ c) (c2 : c ≤ (X + Y) + n * errE)
    (X1 : -(11 * 2 ^ 2403) ≤ X) (X2 : X ≤ 11 * 2 ^ 2403) (Y1 : -(11 * 2 ^ 2403) ≤ Y) (Y2 : Y ≤ 11 * 2 ^ 2403) : ∃ v, valf .f32 (fop .add .f32 x y) = some v ∧ -(2 ^ 2388) ≤ c - v ∧ c - v ≤ 2 ^ 2388 := by
  have hE := err_pos
  have hkE : (n : Int) * errE ≤ 10 * errE := Int.mul_le_mul_of_nonneg_right (by omega) hE
  have hBig : 22 * 2 ^ 2403 + 20 * errE ≤ (2 : Int) ^ (fbits1 .f32 + 2384) := by rw [N32, errE_eq]; decide +kernel
  obtain ⟨v, v1, v2, v3, _⟩ := valf.add (k := .f32) (Q := 2384) hx hy (by rw [L32]; decide) (by decide) (by omega) (by omega)
  have hs := err_sum
  have hp := inonneg 2384
  refine ⟨v, v1, ?_, ?_⟩ <;> generalize (2 : Int) ^ 2384 = z at * <;> generalize (2 : Int) ^ 2388 = u at * <;> omega

/-- a spectrum's entry is not too great -/
def ValC (z : Option Nat × Option Nat) : Prop := ∃ a b, valf .f32 z.1 = some a ∧ valf .f32 z.2 = some b ∧ -(2 ^ 2408) ≤ a ∧ a ≤ 2 ^ 2408 ∧ -(2 ^ 2408) ≤ b ∧ b ≤ 2 ^ 2408

theorem SpecV.valC {n m : Nat} {g : Nat → Int} {z : Option Nat × Option Nat} (h : SpecV n m g z) (h1 : 1 ≤ n) (h2 : n ≤ 10) (hg : ∀ i, -16 ≤ g i ∧ g i ≤ 16) : ValC z := by
  obtain ⟨⟨a, va, a1, a2⟩, b, vb, b1, b2⟩ := h
  have hb1 := spec_bd (ph := phR true) (n := n) (m := m) (g := g) (fun j hj => (ph_has true h1 h2 hj).elim fun _ q => ⟨q.2.2.2.1, q.2.2.2.2.1⟩) h1 hg n h2
  have hb2 := spec_bd (ph := phI true) (n := n) (m := m) (g := g) (fun j hj => (ph_has true h1 h2 hj).elim fun _ q => ⟨q.2.2.2.2.2.1, q.2.2.2.2.2.2⟩) h1 hg n h2
  have hE := err_pos
  have hkE : (n : Int) * errE ≤ 10 * errE := Int.mul_le_mul_of_nonneg_right (by omega) hE
  have hBig : 11 * 2 ^ 2403 + 10 * errE ≤ (2 : Int) ^ 2408 := by rw [errE_eq]; decide +kernel
  exact ⟨a, b, va, vb, by omega, by omega, by omega, by omega⟩

theorem pow_square (a b : Nat) (h : a + a = b + UN) : 2 ^ a * 2 ^ a = 2 ^ b * 2 ^ UN := by rw [← Nat.pow_add, ← Nat.pow_add, h]

/-- squares of what is not too great -/
theorem sq_val {x : Option Nat} {a : Int} (h : valf .f32 x = some a) (a1 : -(2 ^ 2408) ≤ a) (a2 : a ≤ 2 ^ 2408) : ∃ p, valf .f64 (fop .mul .f64 (wid x) (wid x)) = some p ∧ -(2 ^ 2416) ≤ p ∧ p ≤ 2 ^ 2416 := by
  obtain ⟨w, hw⟩ := mul_unit (valf.wid h) (valf.wid h)
  have hr : a * a ≤ 2 ^ 2408 * 2 ^ 2408 := sq_le_pow a1 a2
  have hr0 := sq_nonneg a
  have e : (2 : Int) ^ 2408 * 2 ^ 2408 = 2 ^ 2416 * 2 ^ UN := by rw [← Int.pow_add, ← Int.pow_add]; rfl
  rw [e, ← hw] at hr
  have hUN := ipow_pos UN
  have w2 : w ≤ 2 ^ 2416 := Int.le_of_mul_le_mul_right hr hUN
  have w1 : 0 ≤ w := by
    refine Int.le_of_mul_le_mul_right (a := 2 ^ UN) ?_ hUN
    rw [Int.zero_mul, hw]; exact hr0
  have e2 : fbits1 .f64 + 2363 = 2416 := by rw [N64]
  have hp := inonneg 2416
  obtain ⟨p, p1, _, _, _, p2, p3⟩ := valf.mul (k := .f64) (Q := 2363) (valf.wid h) (valf.wid h) (by rw [L64]; decide) (by decide) hw (by rw [e2]; omega) (by rw [e2]; exact w2)
  rw [e2] at p2 p3
  exact ⟨p, p1, p2, p3⟩

theorem cross_val {x y : Option Nat} {a b : Int} (h : valf .f32 x = some a) (h' : valf .f32 y = some b) (a1 : -(2 ^ 2408) ≤ a) (a2 : a ≤ 2 ^ 2408) (b1 : -(2 ^ 2408) ≤ b) (b2 : b ≤ 2 ^ 2408) : ∃ p, valf .f64 (fop .mul .f64 (wid x) (wid y)) = some p := by
  obtain ⟨w, hw⟩ := mul_unit (valf.wid h) (valf.wid h')
  have n1 := natAbs_le_pow (n := 2408) a1 a2
  have n2 := natAbs_le_pow (n := 2408) b1 b2
  have n3 := Nat.mul_le_mul n1 n2
  rw [← Int.natAbs_mul, ← hw, Int.natAbs_mul] at n3
  have e := pow_square 2408 2416 (by decide)
  have e' : ((2 : Int) ^ UN).natAbs = 2 ^ UN := by rw [← castpow, Int.natAbs_natCast]
  rw [e, e'] at n3
  have n4 := Nat.le_of_mul_le_mul_right n3 (Nat.two_pow_pos UN)
  have e2 : fbits1 .f64 + 2363 = 2416 := by rw [N64]
  have c := castpow 2416
  obtain ⟨p, p1, _⟩ := valf.mul (k := .f64) (Q := 2363) (valf.wid h) (valf.wid h') (by rw [L64]; decide) (by decide) hw (by rw [e2, ← c]; generalize 2 ^ 2416 = Z at *; omega) (by rw [e2, ← c]; generalize 2 ^ 2416 = Z at *; omega)
  exact ⟨p, p1⟩

/-- the power of what is not too great, and the quotient of it and itself -/
theorem power_quo {z : Option Nat × Option Nat} (h : ValC z) : ∃ y q, impl_PowerOf z = some y ∧ impl_QuotientOf z z = some q ∧ (fcmp .gtr .f32 y (some 1008981770) = true → q = (some 1065353216, some 0)) := by
  obtain ⟨a, b, va, vb, a1, a2, b1, b2⟩ := h
  obtain ⟨p, p1, p2, p3⟩ := sq_val va a1 a2
  obtain ⟨q, q1, q2, q3⟩ := sq_val vb b1 b2
  obtain ⟨c, c1⟩ := cross_val vb va b1 b2 a1 a2
  have e3 : fbits1 .f64 + 2364 = 2417 := by rw [N64]
  have e4 : (2 : Int) ^ 2417 = 2 * 2 ^ 2416 := by decide +kernel
  obtain ⟨t, t1, _, _, _, t2, t3⟩ := valf.add (k := .f64) (Q := 2364) p1 q1 (by rw [L64]; decide) (by decide) (by rw [e3, e4]; omega) (by rw [e3, e4]; omega)
  rw [e3] at t2 t3
  obtain ⟨y, r, k1, k2, k3⟩ := valf.fcv (Q := 2393) t1 (by decide) (by decide) (by show -(2 ^ 2417) ≤ t; exact t2) (by show t ≤ 2 ^ 2417; exact t3)
  have hP : impl_PowerOf z = some y := by
    unfold impl_PowerOf impl_power impl_parts
    simp only [some_bind', k1]
  have nx := nb_wid va
  have ny := nb_wid vb
  have ts := times_self nx ny
  have cs := cross_self nx ny c1
  have hQ : ∀ u v, fcv .f64 .f32 (fop .quo .f64 (fop .add .f64 (fop .mul .f64 (wid z.1) (wid z.1)) (fop .mul .f64 (wid z.2) (wid z.2))) (fop .add .f64 (fop .mul .f64 (wid z.1) (wid z.1)) (fop .mul .f64 (wid z.2) (wid z.2)))) = some u → fcv .f64 .f32 (fop .quo .f64 (some 0) (fop .add .f64 (fop .mul .f64 (wid z.1) (wid z.1)) (fop .mul .f64 (wid z.2) (wid z.2)))) = some v → impl_QuotientOf z z = some (u, v) := by
    intro u v hu hv
    unfold impl_QuotientOf impl_power impl_times impl_parts
    simp only [some_bind', ts, cs, hu, hv]
  have hnn : Nn (fop .add .f64 (fop .mul .f64 (wid z.1) (wid z.1)) (fop .mul .f64 (wid z.2) (wid z.2))) := add_nn (sq_nn _) (sq_nn _)
  generalize fop .add .f64 (fop .mul .f64 (wid z.1) (wid z.1)) (fop .mul .f64 (wid z.2) (wid z.2)) = w at *
  obtain ⟨bw, s, m, I, rfl, r1, r2, _⟩ := valf_elim t1
  have r1' : double.read bw = .number s m ((I : Int) - 2400) := r1
  by_cases hm : m = 0
  · -- nothing below the line
    subst hm
    have h0 : fop .quo .f64 (some bw) (some bw) = none := by
      show ((double.read bw).quotient 54 (double.read bw)).map double.write = none
      rw [r1']
      simp only [Datum.quotient, if_true, Option.map_none]
    have h1 : fop .quo .f64 (some 0) (some bw) = none := by
      show ((double.read 0).quotient 54 (double.read bw)).map double.write = none
      have r0 : double.read 0 = .number false 0 (-1074) := by decide
      rw [r1', r0]
      simp only [Datum.quotient, if_true, Option.map_none]
    refine ⟨y, (none, none), hP, hQ _ _ (by rw [h0]; rfl) (by rw [h1]; rfl), fun hg => ?_⟩
    have ht : t = 0 := by rw [r2, signed_val]; cases s <;> simp
    have hr : r = 0 := by
      have := k3.2.2.1 (by rw [ht]; exact Int.dvd_zero _)
      rw [this, ht]
    have hK : ∃ K, valf .f32 (some 1008981770) = some K ∧ 0 < K := by
      have h : (match valf .f32 (some 1008981770) with | some K => decide ((0 : Int) < K) | none => false) = true := by decide +kernel
      cases hK : valf .f32 (some 1008981770) with
      | none => rw [hK] at h; cases h
      | some K => rw [hK] at h; exact ⟨K, rfl, of_decide_eq_true h⟩
    obtain ⟨K, K1, K2⟩ := hK
    rw [valf.gtr k2 K1, hr] at hg
    exact absurd (of_decide_eq_true hg) (Int.lt_asymm K2)
  · have hs : s = false := by
      have := hnn bw rfl
      rw [r1'] at this
      rcases this with h | h
      · exact h
      · exact absurd h hm
    subst hs
    have hp : PosW (some bw) := ⟨bw, m, _, rfl, r1', hm⟩
    refine ⟨y, (some 1065353216, some 0), hP, hQ _ _ (by rw [quo_self hp]; decide +kernel) (by rw [quo_zero hp]; decide +kernel), fun _ => rfl⟩

theorem one_val : ∃ a, valf .f32 (some 1065353216) = some a := by
  have h : (valf .f32 (some 1065353216)).isSome = true := by decide +kernel
  exact Option.isSome_iff_exists.1 h

theorem transfer_ok {Z : List (Option Nat × Option Nat)} {n : Nat} (hl : Z.length = n) (h1 : 1 ≤ n) (h2 : n ≤ 64) (hz : ∀ m, m < n → ∃ z, Z[m]? = some z ∧ ValC z) : ∃ T : List (Option Nat × Option Nat), impl_TransferOf Z Z = some (T, true) ∧ T.length = n ∧ ∀ m, m < n → ∃ z q y, Z[m]? = some z ∧ T[m]? = some q ∧ impl_PowerOf z = some y ∧ (fcmp .gtr .f32 y (some 1008981770) = true → q = (some 1065353216, some 0)) := by
  have A := loop_ex (S := List (Option Nat × Option Nat)) (step := fun (s : ((List ((Option Nat × Option Nat))) × Int)) => impl_TransferOf.s0 Z Z s.1 s.2) (fun s k => (s, (k : Int))) (fun k s => s.length = k ∧ ∀ m, m < k → ∃ z q y, Z[m]? = some z ∧ s[m]? = some q ∧ impl_PowerOf z = some y ∧ (fcmp .gtr .f32 y (some 1008981770) = true → q = (some 1065353216, some 0))) n (fun s => ((n : Int), false, s)) [] ⟨rfl, fun m hm => by omega⟩ (fun k s hk hI => by
    obtain ⟨z, z1, z2⟩ := hz k hk
    obtain ⟨y, q, y1, q1, q2⟩ := power_quo z2
    refine ⟨s ++ [q], ?_, by simp [hI.1], fun m hm => ?_⟩
    · show impl_TransferOf.s0 Z Z s (k : Int) = _
      unfold impl_TransferOf.s0
      rw [if_pos (by simp [hl]; omega), idx_nat, z1]
      simp only [some_bind', q1]
      rw [if_pos (by simp; omega), one_more (by omega)]
    · by_cases hmk : m = k
      · subst hmk
        exact ⟨z, q, y, z1, by rw [List.getElem?_append_right (by omega), hI.1]; simp, y1, q2⟩
      · rw [List.getElem?_append_left (by omega)]
        exact hI.2 m (by omega)) (fun s hI => by
    show impl_TransferOf.s0 Z Z s (n : Int) = _
    unfold impl_TransferOf.s0
    rw [if_neg (by simp [hl])]
    simp [hl])
  obtain ⟨T, A1, A2, A3⟩ := A
  refine ⟨T, ?_, A2, A3⟩
  unfold impl_TransferOf impl_isRecord_complex64
  have c1 : (decide ((Z.length : Int) ≥ 1) && decide ((Z.length : Int) ≤ 64)) = true := by simp; omega
  have A1' : loopF (fun (s : ((List ((Option Nat × Option Nat))) × Int)) => impl_TransferOf.s0 Z Z s.1 s.2) (([] : List ((Option Nat × Option Nat))), 0) = _ := A1
  simp only [(in_eq _ _ _).2, some_bind', c1, bne_self_eq_false, Bool.not_true, Bool.false_eq_true, if_false, A1']

/-- what is kept of a spectrum -/
def keepB (n low high i : Nat) : Bool := (decide ((i : Int) ≥ (low : Int)) && decide ((i : Int) ≤ (high : Int))) || (decide ((n : Int) - (i : Int) ≥ (low : Int)) && decide ((n : Int) - (i : Int) ≤ (high : Int)))

theorem cut_ok {Z : List (Option Nat × Option Nat)} {n low : Nat} (hl : Z.length = n) (h1 : 1 ≤ n) (h2 : n ≤ 64) (hlow : low ≤ n / 2) : ∃ C : List (Option Nat × Option Nat), impl_CutSpectrum Z (low : Int) ((n / 2 : Nat) : Int) = some (C, true) ∧ C.length = n ∧ ∀ i, i < n → ∃ z, Z[i]? = some z ∧ C[i]? = some (if keepB n low (n / 2) i = true then z else (some 0, some 0)) := by
  have hd : n / 2 ≤ 32 := by omega
  generalize hh : n / 2 = high at *
  have A := loop_ex (S := List (Option Nat × Option Nat)) (step := fun (s : (Int × (List ((Option Nat × Option Nat))))) => impl_CutSpectrum.s0 Z (low : Int) (high : Int) s.1 s.2) (fun s k => ((k : Int), s)) (fun k s => s.length = n ∧ (∀ i, i < k → ∃ z, Z[i]? = some z ∧ s[i]? = some (if keepB n low high i = true then z else (some 0, some 0))) ∧ ∀ i, k ≤ i → i < n → s[i]? = some (some 0, some 0)) n (fun s => ((n : Int), false, s)) (List.replicate n (some 0, some 0)) ⟨by simp, fun i hi => by omega, fun i _ hi => by simp [hi]⟩ (fun k s hk hI => by
    obtain ⟨i1, i2, i3⟩ := hI
    have hkZ : k < Z.length := by omega
    have hks : k < s.length := by omega
    have hw : IntKind.wrap .i64 ((Z.length : Int) - (k : Int)) = (n : Int) - (k : Int) := by rw [hl]; exact wrap_small (by omega) (by omega)
    have hkeep : (if (decide ((k : Int) ≥ (low : Int)) && decide ((k : Int) ≤ (high : Int))) = true then some true else some (decide ((n : Int) - (k : Int) ≥ (low : Int)) && decide ((n : Int) - (k : Int) ≤ (high : Int)))) = some (keepB n low high k) := by
      unfold keepB
      rw [ite_orB]
    have hs0 : ∀ t, (if keepB n low high k = true then some (s.set k Z[k]) else some s) = some t → impl_CutSpectrum.s0 Z (low : Int) (high : Int) (k : Int) s = some (.inl (((k + 1 : Nat) : Int), t)) := by
      intro t ht
      unfold impl_CutSpectrum.s0
      rw [if_pos (by simp [hl]; omega), idx_nat, List.getElem?_eq_getElem hkZ]
      simp only [some_bind', (in_eq _ _ _).2, hw]
      rw [hkeep]
      simp only [some_bind', idx_nat, List.getElem?_eq_getElem hks, setF_nat hks, ht, one_more (show k ≤ 1000000000 by omega)]
    by_cases hK : keepB n low high k = true
    · refine ⟨s.set k Z[k], hs0 _ (by rw [if_pos hK]), by simp [i1], fun i hi => ?_, fun i hki hi => ?_⟩
      · by_cases hik : i = k
        · subst hik
          exact ⟨Z[i], List.getElem?_eq_getElem hkZ, by rw [if_pos hK]; simp [hks]⟩
        · rw [List.getElem?_set_ne (Ne.symm hik)]
          exact i2 i (by omega)
      · rw [List.getElem?_set_ne (by omega)]
        exact i3 i (by omega) hi
    · refine ⟨s, hs0 _ (by rw [if_neg hK]), i1, fun i hi => ?_, fun i hki hi => i3 i (by omega) hi⟩
      by_cases hik : i = k
      · subst hik
        exact ⟨Z[i], List.getElem?_eq_getElem hkZ, by rw [if_neg hK]; exact i3 i (Nat.le_refl _) hk⟩
      · exact i2 i (by omega)) (fun s hI => by
    show impl_CutSpectrum.s0 Z (low : Int) (high : Int) (n : Int) s = _
    unfold impl_CutSpectrum.s0
    rw [if_neg (by simp [hl])]
    simp [hl])
  obtain ⟨C, A1, A2, A3, _⟩ := A
  refine ⟨C, ?_, A2, A3⟩
  unfold impl_CutSpectrum impl_isRecord_complex64
  have c1 : (decide ((Z.length : Int) ≥ 1) && decide ((Z.length : Int) ≤ 64)) = true := by simp; omega
  have hw : IntKind.wrap .i64 (Int.tdiv (Z.length : Int) 2) = (high : Int) := by
    have : Int.tdiv (Z.length : Int) 2 = ((n / 2 : Nat) : Int) := by rw [hl]; rfl
    rw [this, hh]
    exact wrap_small (by omega) (by omega)
  have c2 : (decide ((low : Int) ≥ 0) && decide ((low : Int) ≤ (high : Int))) = true := by simp; omega
  have c3 : (decide ((high : Int) ≥ 0) && decide ((high : Int) ≤ (high : Int))) = true := by simp
  have htn : Int.toNat (Z.length : Int) = n := by rw [hl]; exact Int.toNat_natCast n
  have A1' : loopF (fun (s : (Int × (List ((Option Nat × Option Nat))))) => impl_CutSpectrum.s0 Z (low : Int) (high : Int) s.1 s.2) (0, List.replicate n (some 0, some 0)) = _ := A1
  have c4 : 0 ≤ (Z.length : Int) ∧ (Z.length : Int) ≤ 1000000000 := by omega
  simp only [(in_eq _ _ _).2, hw, some_bind', c1, c2, c3, Bool.not_true, Bool.false_eq_true, if_false, if_pos c4, htn, A1']

/-- the list of sums -/
theorem sums_ok {a b : List (Option Nat)} {n : Nat} {g h : Nat → Int} (ha : Qs a n g) (hb : Qs b n h) (p : Int) (hp : IntKind.wrap .i64 (1 + p) = (n : Int)) (hn : n ≤ 64) :
    ∃ c, loopF (fun (s : ((List (Option Nat)) × Int)) => laws_FnSpectraAdded.s0 p a b s.1 s.2) (([] : List (Option Nat)), 0) = some ((n : Int), false, c) ∧ Qr c n (fun i => g i + h i) := by
  have A := loop_ex (S := List (Option Nat)) (step := fun (s : ((List (Option Nat)) × Int)) => laws_FnSpectraAdded.s0 p a b s.1 s.2) (fun s k => (s, (k : Int))) (fun k s => s.length = k ∧ ∀ i, i < k → ∃ x, s[i]? = some x ∧ valf .f32 x = some ((g i + h i) * 2 ^ 2398)) n (fun s => ((n : Int), false, s)) [] ⟨rfl, fun i hi => by omega⟩ (fun k s hk hI => by
    obtain ⟨x, x1, x2⟩ := ha.val k hk
    obtain ⟨y, y1, y2⟩ := hb.val k hk
    have g1 := ha.lo k
    have g2 := ha.hi k
    have g3 := hb.lo k
    have g4 := hb.hi k
    have hB : (16 : Int) * 2 ^ 2398 ≤ 2 ^ (fbits1 .f32 + 2398) := by rw [N32]; decide +kernel
    have e : g k * 2 ^ 2398 + h k * 2 ^ 2398 = (g k + h k) * 2 ^ 2398 := (Int.add_mul _ _ _).symm
    have b1 : -(16 * 2 ^ 2398) ≤ (g k + h k) * 2 ^ 2398 ∧ (g k + h k) * 2 ^ 2398 ≤ 16 * 2 ^ 2398 := by
      have := inonneg 2398
      constructor
      · rw [← Int.neg_mul]; exact Int.mul_le_mul_of_nonneg_right (by omega) this
      · exact Int.mul_le_mul_of_nonneg_right (by omega) this
    obtain ⟨v, v1, _, _, v2, _⟩ := valf.add (k := .f32) (Q := 2398) x2 y2 (by rw [L32]; decide) (by decide) (by rw [e]; omega) (by rw [e]; omega)
    have v3 := v2 (by rw [e]; exact ⟨_, Int.mul_comm _ _⟩)
    rw [v3, e] at v1
    refine ⟨s ++ [fop .add .f32 x y], ?_, by simp [hI.1], fun i hi => ?_⟩
    · show laws_FnSpectraAdded.s0 p a b s (k : Int) = _
      unfold laws_FnSpectraAdded.s0
      rw [hp, if_pos (by simp; omega), idx_nat, idx_nat, x1, y1]
      simp only [some_bind']
      rw [if_pos (by simp; omega), one_more (by omega)]
    · by_cases hik : i = k
      · subst hik
        exact ⟨fop .add .f32 x y, by rw [List.getElem?_append_right (by omega), hI.1]; simp, v1⟩
      · rw [List.getElem?_append_left (by omega)]
        exact hI.2 i (by omega)) (fun s hI => by
    show laws_FnSpectraAdded.s0 p a b s (n : Int) = _
    unfold laws_FnSpectraAdded.s0
    rw [hp, if_neg (by simp)]
    simp)
  obtain ⟨c, A1, A2, A3⟩ := A
  exact ⟨c, A1, A2, A3, fun i => by
    have := ha.lo i; have := ha.hi i; have := hb.lo i; have := hb.hi i
    constructor <;> (show _ ≤ _) <;> omega⟩

theorem Qs.qr {l : List (Option Nat)} {n : Nat} {g : Nat → Int} (h : Qs l n g) : Qr l n g := ⟨h.len, h.val, fun i => by have := h.lo i; have := h.hi i; omega⟩

theorem sameNumber_val {x : Option Nat} {a : Int} (h : valf .f32 x = some a) : impl_SameNumber x x = some true := by
  unfold impl_SameNumber math_Signbit
  have h1 : fcmp .eql .f32 x x = true := by rw [valf.eql h h]; simp
  have h2 : fcmp .neq .f32 x x = false := by
    show (!fcmp .eql .f32 x x) = false
    rw [h1]; rfl
  rw [h1, h2]
  obtain ⟨b, _, _, _, hb, _⟩ := valf_elim (valf.wid h)
  rw [hb]
  simp [fsign]
theorem sameComplex_val {z : Option Nat × Option Nat} (h : ValC z) : impl_SameComplex z z = some true := by
  obtain ⟨a, b, va, vb, _⟩ := h
  unfold impl_SameComplex
  rw [sameNumber_val va, sameNumber_val vb]; rfl

theorem keep_law (n low i : Nat) : (if decide ((i : Int) ≥ (low : Int)) = true then (if decide ((i : Int) ≤ ((n / 2 : Nat) : Int)) = true then some true else (if decide ((n : Int) - (i : Int) ≥ (low : Int)) = true then some (decide ((n : Int) - (i : Int) ≤ ((n / 2 : Nat) : Int))) else some false)) else (if decide ((n : Int) - (i : Int) ≥ (low : Int)) = true then some (decide ((n : Int) - (i : Int) ≤ ((n / 2 : Nat) : Int))) else some false)) = some (keepB n low (n / 2) i) := by
  unfold keepB
  cases decide ((i : Int) ≥ (low : Int)) <;> cases decide ((i : Int) ≤ ((n / 2 : Nat) : Int)) <;> cases decide ((n : Int) - (i : Int) ≥ (low : Int)) <;> rfl

theorem laws_FnSpectraAdded_true (a0 a1 : List Int) (h0 : ∀ x ∈ a0, 0 ≤ x ∧ x ≤ 255) (h1 : ∀ x ∈ a1, 0 ≤ x ∧ x ≤ 255) : laws_FnSpectraAdded a0 a1 = some true := by
  unfold laws_FnSpectraAdded laws_r8Long
  simp only [some_bind', ite_orB]
  cases (decide ((a0.length : Int) > 48) || decide ((a1.length : Int) > 48)) with
  | true => rfl
  | false =>
    obtain ⟨p, e1, p0, p1⟩ := r8At_ok h1 40 10 (by omega)
    obtain ⟨p, rfl⟩ := Int.eq_ofNat_of_zero_le p0
    have hw : IntKind.wrap .i64 (1 + (p : Int)) = ((1 + p : Nat) : Int) := by rw [wrap_small (by omega) (by omega)]; rfl
    generalize hnn : 1 + p = n at *
    have hn1 : 1 ≤ n := by omega
    have hn : n ≤ 10 := by omega
    obtain ⟨l, e2, ll, hl⟩ := record_ok h0 n (by omega)
    obtain ⟨g, hq⟩ := quarters_qs hl
    rw [ll] at hq
    obtain ⟨l', e3, ll', hl'⟩ := record_ok h1 n (by omega)
    obtain ⟨g', hq'⟩ := quarters_qs hl'
    rw [ll'] at hq'
    obtain ⟨c, e4, hc⟩ := sums_ok hq hq' (p : Int) hw (by omega)
    obtain ⟨X, x1, x2, x3⟩ := spectrum_ok hq.qr hn1 hn
    obtain ⟨Y, y1, y2, y3⟩ := spectrum_ok hq'.qr hn1 hn
    obtain ⟨Z, z1, z2, z3⟩ := spectrum_ok hc hn1 hn
    have hval : ∀ m, m < n → ∃ z, Z[m]? = some z ∧ ValC z := fun m hm => by
      obtain ⟨z, k1, k2⟩ := z3 m hm
      exact ⟨z, k1, k2.valC hn1 hn hc.bd⟩
    obtain ⟨T, t1, t2, t3⟩ := transfer_ok z2 hn1 (by omega) hval
    have hd : IntKind.wrap .i64 (Int.tdiv (n : Int) 2) = ((n / 2 : Nat) : Int) := by
      have : Int.tdiv (n : Int) 2 = ((n / 2 : Nat) : Int) := rfl
      rw [this]
      exact wrap_small (by omega) (by omega)
    have hd1 : IntKind.wrap .i64 (((n / 2 : Nat) : Int) + 1) = ((n / 2 : Nat) : Int) + 1 := wrap_small (by omega) (by omega)
    obtain ⟨low, e5, w0, w1⟩ := r8At_ok h1 41 (((n / 2 : Nat) : Int) + 1) (by omega)
    obtain ⟨low, rfl⟩ := Int.eq_ofNat_of_zero_le w0
    have hlow : low ≤ n / 2 := by omega
    obtain ⟨C, c1, c2, c3⟩ := cut_ok z2 hn1 (by omega) hlow
    obtain ⟨o1, ho1⟩ := one_val
    have L := loop_all' (step := fun (s : (Bool × Int)) => laws_FnSpectraAdded.s1 (p : Int) (X, true) (Y, true) (Z, true) (T, true) (low : Int) (C, true) s.1 s.2) (n := n) (fun _ => false) false (false, (n : Int), false) (fun i hi => by
      show laws_FnSpectraAdded.s1 (p : Int) (X, true) (Y, true) (Z, true) (T, true) (low : Int) (C, true) false (i : Int) = _
      obtain ⟨x, k1, ⟨xa, vxa, xa1, xa2⟩, xb, vxb, xb1, xb2⟩ := x3 i hi
      obtain ⟨y, k2, ⟨ya, vya, ya1, ya2⟩, yb, vyb, yb1, yb2⟩ := y3 i hi
      obtain ⟨z, k3, hz⟩ := z3 i hi
      have hzc := hz.valC hn1 hn hc.bd
      obtain ⟨⟨za, vza, za1, za2⟩, zb, vzb, zb1, zb2⟩ := hz
      rw [specZ_add] at za1 za2 zb1 zb2
      have bR := fun (g : Nat → Int) (hg : ∀ i, -16 ≤ g i ∧ g i ≤ 16) => spec_bd (ph := phR true) (n := n) (m := i) (g := g) (fun j hj => (ph_has true hn1 hn hj).elim fun _ q => ⟨q.2.2.2.1, q.2.2.2.2.1⟩) hn1 hg n hn
      have bI := fun (g : Nat → Int) (hg : ∀ i, -16 ≤ g i ∧ g i ≤ 16) => spec_bd (ph := phI true) (n := n) (m := i) (g := g) (fun j hj => (ph_has true hn1 hn hj).elim fun _ q => ⟨q.2.2.2.2.2.1, q.2.2.2.2.2.2⟩) hn1 hg n hn
      obtain ⟨u, u1, u2, u3⟩ := added_part hn vxa vya xa1 xa2 ya1 ya2 za1 za2 (bR g hq.qr.bd).1 (bR g hq.qr.bd).2 (bR g' hq'.qr.bd).1 (bR g' hq'.qr.bd).2
      obtain ⟨v, v1, v2, v3⟩ := added_part hn vxb vyb xb1 xb2 yb1 yb2 zb1 zb2 (bI g hq.qr.bd).1 (bI g hq.qr.bd).2 (bI g' hq'.qr.bd).1 (bI g' hq'.qr.bd).2
      obtain ⟨d, d1, d2⟩ := apart_small (u := z) (v := cop .add .f32 x y) vza u1 vzb v1 u2 u3 v2 v3
      obtain ⟨z', q, y', m1, m2, m3, m4⟩ := t3 i hi
      rw [k3] at m1
      cases m1
      have P1 : (if fcmp .gtr .f32 y' (some 1008981770) = true then (laws_r8Apart q (some 1065353216, some 0)).bind fun (x32 : Option Nat) => some (fcmp .gtr .f64 x32 (some 4562254508917369340)) else some false) = some false := by
        cases hg : fcmp .gtr .f32 y' (some 1008981770) with
        | false => rfl
        | true =>
          rw [m4 hg, if_pos rfl]
          have hp := inonneg 2388
          obtain ⟨d', f1, f2⟩ := apart_small (u := (some 1065353216, some 0)) (v := (some 1065353216, some 0)) ho1 ho1 zero32' zero32' (by omega) (by omega) (by omega) (by omega)
          rw [f1, some_bind', f2]
      obtain ⟨z'', r1, r2⟩ := c3 i hi
      rw [k3] at r1
      cases r1
      have hni : IntKind.wrap .i64 ((n : Int) - (i : Int)) = (n : Int) - (i : Int) := wrap_small (by omega) (by omega)
      unfold laws_FnSpectraAdded.s1
      rw [hw, if_pos (by simp; omega)]
      simp only [idx_nat, k1, k2, k3, m2, r2, some_bind', d1, d2, m3, hd, hni, Bool.false_eq_true, if_false]
      rw [P1, keep_law]
      simp only [some_bind', Bool.false_eq_true, if_false]
      have P2 : (if keepB n low (n / 2) i = true then (impl_SameComplex (if keepB n low (n / 2) i = true then z else (some 0, some 0)) z).bind fun (x37 : Bool) => if (!x37) = true then some true else if (!keepB n low (n / 2) i) = true then some (ccmp .neq .f32 (if keepB n low (n / 2) i = true then z else (some 0, some 0)) (some 0, some 0)) else some false else if (!keepB n low (n / 2) i) = true then some (ccmp .neq .f32 (if keepB n low (n / 2) i = true then z else (some 0, some 0)) (some 0, some 0)) else some false) = some false := by
        cases keepB n low (n / 2) i with
        | true => simp only [if_true, sameComplex_val hzc, some_bind', Bool.not_true, Bool.false_eq_true, if_false]
        | false =>
          simp only [Bool.false_eq_true, if_false, Bool.not_false, if_true]
          decide +kernel
      rw [P2]
      simp only [some_bind', Bool.false_eq_true, if_false, one_more (show i ≤ 1000000000 by omega)]) (by
      show laws_FnSpectraAdded.s1 (p : Int) (X, true) (Y, true) (Z, true) (T, true) (low : Int) (C, true) false (n : Int) = _
      unfold laws_FnSpectraAdded.s1
      rw [hw, if_neg (by simp)]
      simp)
    have hno : (List.range n).any (fun _ => false) = false := by rw [List.any_eq_false]; simp
    rw [hno] at L
    simp only [Bool.false_eq_true, if_false] at L
    have q1 : ∀ W : List (Option Nat × Option Nat), W.length = n → ((W.length : Int) != (n : Int)) = false := by intro W h; rw [h]; simp
    simp only [Bool.false_eq_true, if_false, e1, some_bind', hw, e2, e3, e4, x1, y1, z1, t1, hd, hd1, e5, c1, Bool.not_true, q1 Z z2, q1 T t2, q1 C c2]
    rw [L]
    rfl
end Go.H
