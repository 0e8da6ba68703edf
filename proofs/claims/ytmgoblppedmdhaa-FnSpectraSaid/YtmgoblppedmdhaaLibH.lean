/- The library: frames told in part, a judgement on code over them, floats. -/
import Derived.Test.YtmgoblppedmdhaaLibE
import Derived.Test.YtmgoblppedmdhaaLibD
/- What floats are worth, in units of 2^-2400, and by how much rounding turns it. -/
set_option linter.unusedVariables false
namespace Go.H
open Go Ieee

/-- single or double precision -/
structure Prec (f : Format) (top : Nat) : Prop where
  lo : -1074 ≤ f.leastPlace
  hi : f.leastPlace ≤ -149
  room : ((top : Int) - 2397 - f.leastPlace).toNat + 1 ≤ 2 ^ f.exponentBits - 1
theorem prec32 : Prec single 2490 := ⟨by decide, by decide, by decide⟩
theorem prec64 : Prec double 3000 := ⟨by decide, by decide, by decide⟩

theorem cut_err (s : Bool) (n d : Nat) : 2 * (Toward.even.cut s n d * 2 ^ d) ≤ 2 * n + 2 ^ d ∧ 2 * n ≤ 2 * (Toward.even.cut s n d * 2 ^ d) + 2 ^ d ∧ (2 ^ d ∣ n → Toward.even.cut s n d * 2 ^ d = n) := by
  rw [cut_even]
  have e := Nat.div_add_mod n (2 ^ d)
  have hl := Nat.mod_lt n (Nat.two_pow_pos d)
  have hdvd : 2 ^ d ∣ n → n % 2 ^ d = 0 := fun h => Nat.mod_eq_zero_of_dvd h
  have hm : 2 ^ d * (n / 2 ^ d) = n / 2 ^ d * 2 ^ d := Nat.mul_comm _ _
  rw [hm] at e
  generalize n / 2 ^ d = Q at *
  generalize hR : n % 2 ^ d = R at *
  generalize hD : 2 ^ d = D at *
  have hD0 : 0 < D := by rw [← hD]; exact Nat.two_pow_pos d
  have e1 : ∀ b : Nat, (Q + b) * D = Q * D + b * D := fun b => Nat.add_mul _ _ _
  rw [e1]
  generalize Q * D = QD at *
  split
  · rename_i h
    refine ⟨?_, by omega, fun h2 => ?_⟩
    · rcases h with h | h <;> omega
    · have := hdvd h2; rcases h with h | h <;> omega
  · rename_i h
    refine ⟨by omega, ?_, fun h2 => ?_⟩
    · have : ¬ (D < 2 * R) := fun h2 => h (.inl h2)
      omega
    · have := hdvd h2; omega

theorem rungV_kept (f : Format) {e kept : Nat} (h1 : kept ≤ 2 * f.binade) (h2 : 0 < e → f.binade ≤ kept) : rungV f (e * f.binade + kept) = kept * 2 ^ e := by
  have hb : 0 < f.binade := by unfold Format.binade; exact Nat.two_pow_pos _
  unfold rungV
  by_cases hk : kept < f.binade
  · have he : e = 0 := by
      refine Classical.byContradiction fun h => ?_
      have := h2 (by omega); omega
    subst he
    rw [if_pos (by omega)]; simp
  · have hge : ¬ e * f.binade + kept < f.binade := by
      have := Nat.zero_le (e * f.binade); omega
    rw [if_neg hge]
    by_cases hk2 : kept < 2 * f.binade
    · have d1 : (e * f.binade + kept) / f.binade = e + 1 := by
        rw [show e * f.binade + kept = (kept - f.binade) + f.binade * (e + 1) by rw [Nat.mul_add, Nat.mul_comm f.binade e]; omega, Nat.add_mul_div_left _ _ hb, Nat.div_eq_of_lt (by omega), Nat.zero_add]
      have d2 : (e * f.binade + kept) % f.binade = kept - f.binade := by
        rw [show e * f.binade + kept = (kept - f.binade) + f.binade * (e + 1) by rw [Nat.mul_add, Nat.mul_comm f.binade e]; omega, Nat.add_mul_mod_self_left, Nat.mod_eq_of_lt (by omega)]
      rw [d1, d2, Nat.add_sub_cancel, Nat.add_sub_cancel' (by omega)]
    · have hk3 : kept = 2 * f.binade := by omega
      subst hk3
      have d1 : (e * f.binade + 2 * f.binade) / f.binade = e + 2 := by
        rw [← Nat.add_mul, Nat.mul_div_cancel _ hb]
      have d2 : (e * f.binade + 2 * f.binade) % f.binade = 0 := by
        rw [← Nat.add_mul, Nat.mul_mod_left]
      rw [d1, d2, Nat.add_zero, show e + 2 - 1 = e + 1 by omega, Nat.pow_succ]
      rw [Nat.mul_comm 2 f.binade, Nat.mul_assoc, Nat.mul_comm 2 (2 ^ e)]

/-- rounding on a grid: the magnitude m * 2^P (units of 2^-2400), the grid's step 2^Q -/
theorem nearest_val {f : Format} {top : Nat} (hf : Prec f top) (s : Bool) (m P Q : Nat) (hQ1 : f.leastPlace + 2400 ≤ (Q : Int)) (hQ2 : Q ≤ top) (hw : m * 2 ^ P ≤ 2 ^ (f.fractionBits + 1 + Q)) :
    ∃ k P' : Nat, f.read (f.nearest s m ((P : Int) - 2400)) = .number s k ((P' : Int) - 2400) ∧ 2 * (k * 2 ^ P') ≤ 2 * (m * 2 ^ P) + 2 ^ Q ∧ 2 * (m * 2 ^ P) ≤ 2 * (k * 2 ^ P') + 2 ^ Q ∧ (2 ^ Q ∣ m * 2 ^ P → k * 2 ^ P' = m * 2 ^ P) ∧ k * 2 ^ P' ≤ 2 ^ (f.fractionBits + 1 + Q) := by
  have hb : 0 < f.binade := by unfold Format.binade; exact Nat.two_pow_pos _
  have hbin : f.binade = 2 ^ f.fractionBits := rfl
  have hinf : f.infRung = (2 ^ f.exponentBits - 1) * f.binade := rfl
  obtain ⟨hlo, hhi, hroom⟩ := hf
  obtain ⟨Ln, hL⟩ : ∃ Ln : Nat, f.leastPlace = (Ln : Int) - 2400 := ⟨(f.leastPlace + 2400).toNat, by omega⟩
  by_cases hm : m = 0
  · subst hm
    refine ⟨0, Ln, ?_, by simp, by simp, by simp, by simp⟩
    unfold Format.nearest
    rw [if_pos rfl, read_word f s (Nat.two_pow_pos _), if_pos hb, hL]
  · obtain ⟨last, kept, h1, h2, h3, h4⟩ := nearest_rung f s hm ((P : Int) - 2400)
    have hlog := pow_log2_le hm
    have hlog2 := lt_pow_log2 m
    have hge : f.leastPlace ≤ last := by rw [h2]; exact Int.le_max_right _ _
    obtain ⟨R, hR⟩ : ∃ R : Nat, last = (R : Int) - 2400 := ⟨(last + 2400).toNat, by omega⟩
    -- the last place is at most the grid's, or the magnitude is the bound itself
    have hlm : m.log2 + P ≤ f.fractionBits + 1 + Q := by
      refine Classical.byContradiction fun hh => ?_
      have a : 2 ^ (f.fractionBits + 1 + Q) < 2 ^ (m.log2 + P) := Nat.pow_lt_pow_right (by decide) (by omega)
      have b : 2 ^ (m.log2 + P) ≤ m * 2 ^ P := by rw [Nat.pow_add]; exact Nat.mul_le_mul_right _ hlog
      omega
    have hRQ : R ≤ Q + 1 := by omega
    have hcut : kept = Toward.even.cut s (m <<< ((P : Int) - 2400 - last).toNat) (last - ((P : Int) - 2400)).toNat := by
      have h5 : f.nearest s m ((P : Int) - 2400) = f.word s (min ((max ((P : Int) - 2400 + m.log2 - f.fractionBits) f.leastPlace - f.leastPlace).toNat * f.binade + Toward.even.cut s (m <<< ((P : Int) - 2400 - max ((P : Int) - 2400 + m.log2 - f.fractionBits) f.leastPlace).toNat) (max ((P : Int) - 2400 + m.log2 - f.fractionBits) f.leastPlace - ((P : Int) - 2400)).toNat) f.infRung) := by
        unfold Format.nearest
        rw [if_neg hm]
      rw [← h2] at h5
      rw [h5] at h1
      have hwj : ∀ {a b : Nat}, f.word s a = f.word s b → a = b := by
        intro a b h
        unfold Format.word at h
        split at h <;> omega
      have h6 := hwj h1
      have hk2 : Toward.even.cut s (m <<< ((P : Int) - 2400 - last).toNat) (last - ((P : Int) - 2400)).toNat ≤ 2 ^ (f.fractionBits + 1) := by
        apply cut_le_pow
        rw [Nat.shiftLeft_eq]
        refine Nat.lt_of_lt_of_le (Nat.mul_lt_mul_of_pos_right hlog2 (Nat.two_pow_pos _)) ?_
        rw [← Nat.pow_add]
        apply Nat.pow_le_pow_right (by decide)
        omega
      have hee : (last - f.leastPlace).toNat + 2 ≤ 2 ^ f.exponentBits - 2 := by omega
      have hmul : ((last - f.leastPlace).toNat + 2) * f.binade ≤ (2 ^ f.exponentBits - 2) * f.binade := Nat.mul_le_mul_right _ hee
      have hpow : 2 ^ (f.fractionBits + 1) = 2 * f.binade := by rw [Nat.pow_succ, hbin, Nat.mul_comm]
      have hsub : (2 ^ f.exponentBits - 2) * f.binade + f.binade = f.infRung := by
        rw [hinf, ← Nat.succ_mul]
        congr 1
        omega
      rw [Nat.add_mul] at hmul
      omega
    have hpow : 2 ^ (f.fractionBits + 1) = 2 * f.binade := by rw [Nat.pow_succ, hbin, Nat.mul_comm]
    have hlt : (last - f.leastPlace).toNat * f.binade + kept < f.infRung := by
      have hee : (last - f.leastPlace).toNat + 2 ≤ 2 ^ f.exponentBits - 2 := by omega
      have hmul : ((last - f.leastPlace).toNat + 2) * f.binade ≤ (2 ^ f.exponentBits - 2) * f.binade := Nat.mul_le_mul_right _ hee
      have hsub : (2 ^ f.exponentBits - 2) * f.binade + f.binade = f.infRung := by
        rw [hinf, ← Nat.succ_mul]
        congr 1
        omega
      rw [Nat.add_mul] at hmul
      omega
    rw [h1, Nat.min_eq_left (Nat.le_of_lt hlt)]
    obtain ⟨k, p', a1, a2, a3⟩ := read_rung f s hlt
    rw [rungV_kept f (by omega) (fun he => h4 (by omega))] at a3
    obtain ⟨P', hP'⟩ : ∃ P' : Nat, p' = (P' : Int) - 2400 := ⟨(p' + 2400).toNat, by omega⟩
    have hval : k * 2 ^ P' = kept * 2 ^ R := by
      have b1 : P' = (p' - f.leastPlace).toNat + Ln := by omega
      have b2 : R = (last - f.leastPlace).toNat + Ln := by omega
      rw [b1, b2, Nat.pow_add, Nat.pow_add, ← Nat.mul_assoc, ← Nat.mul_assoc, a3]
    refine ⟨k, P', by rw [a1, hP'], ?_⟩
    rw [hval]
    -- the error
    have herr : 2 * (kept * 2 ^ R) ≤ 2 * (m * 2 ^ P) + 2 ^ R ∧ 2 * (m * 2 ^ P) ≤ 2 * (kept * 2 ^ R) + 2 ^ R ∧ (2 ^ R ∣ m * 2 ^ P → kept * 2 ^ R = m * 2 ^ P) := by
      by_cases hPR : R ≤ P
      · have e1 : (last - ((P : Int) - 2400)).toNat = 0 := by omega
        have e2 : ((P : Int) - 2400 - last).toNat = P - R := by omega
        rw [e1, e2] at hcut
        obtain ⟨_, _, c3⟩ := cut_err s (m <<< (P - R)) 0
        have c4 := c3 ⟨_, (Nat.one_mul _).symm⟩
        rw [Nat.pow_zero, Nat.mul_one, ← hcut, Nat.shiftLeft_eq] at c4
        have : kept * 2 ^ R = m * 2 ^ P := by rw [c4, Nat.mul_assoc, ← Nat.pow_add]; congr 2; omega
        rw [this]
        have hpR := Nat.two_pow_pos R
        exact ⟨by omega, by omega, fun _ => rfl⟩
      · have e1 : (last - ((P : Int) - 2400)).toNat = R - P := by omega
        have e2 : ((P : Int) - 2400 - last).toNat = 0 := by omega
        rw [e1, e2, Nat.shiftLeft_zero] at hcut
        obtain ⟨c1, c2, c3⟩ := cut_err s m (R - P)
        rw [← hcut] at c1 c2 c3
        have hR2 : 2 ^ R = 2 ^ (R - P) * 2 ^ P := by rw [← Nat.pow_add]; congr 1; omega
        have d1 := Nat.mul_le_mul_right (2 ^ P) c1
        have d2 := Nat.mul_le_mul_right (2 ^ P) c2
        rw [Nat.add_mul] at d1 d2
        rw [Nat.mul_assoc, Nat.mul_assoc, ← hR2, Nat.mul_assoc] at d1
        rw [Nat.mul_assoc, Nat.mul_assoc, Nat.mul_assoc, ← hR2] at d2
        refine ⟨d1, d2, fun hd => ?_⟩
        rw [hR2] at hd
        have := c3 (Nat.dvd_of_mul_dvd_mul_right (Nat.two_pow_pos P) hd)
        rw [hR2, ← Nat.mul_assoc, this]
    by_cases hRq : R ≤ Q
    · have hp : 2 ^ R ≤ 2 ^ Q := Nat.pow_le_pow_right (by decide) hRq
      refine ⟨by omega, by omega, fun hd => herr.2.2 (Nat.dvd_trans (Nat.pow_dvd_pow 2 hRq) hd), ?_⟩
      calc kept * 2 ^ R ≤ 2 ^ (f.fractionBits + 1) * 2 ^ Q := Nat.mul_le_mul h3 hp
        _ = _ := (Nat.pow_add ..).symm
    · -- the magnitude is a power of two
      have hR1 : R = Q + 1 := by omega
      have hlast : last = (P : Int) - 2400 + m.log2 - f.fractionBits := by
        rw [h2] at hR ⊢
        omega
      have hsum : m.log2 + P = f.fractionBits + 1 + Q := by omega
      have hm2 : m = 2 ^ m.log2 := by
        refine Nat.le_antisymm ?_ hlog
        rw [← hsum, Nat.pow_add] at hw
        exact Nat.le_of_mul_le_mul_right hw (Nat.two_pow_pos P)
      have hex : kept * 2 ^ R = m * 2 ^ P := by
        refine herr.2.2 ?_
        have : m * 2 ^ P = 2 ^ (f.fractionBits + 1 + Q) := by rw [← hsum, Nat.pow_add]; congr 1
        rw [this]
        exact Nat.pow_dvd_pow 2 (by omega)
      rw [hex]
      have hpQ := Nat.two_pow_pos Q
      exact ⟨by omega, by omega, fun _ => rfl, hw⟩
end Go.H

/- The values of floats under operations: each within half a step of the grid. -/
set_option linter.unusedVariables false
namespace Go.H
open Go Ieee

/-- what a float is worth, in units of 2^-2400; none if it is no number -/
def valf (k : FloatKind) (x : Option Nat) : Option Int := x.bind fun b => match k.format.read b with
  | .number s m p => some (signed s m (p + 2400).toNat)
  | _ => none

def topQ : FloatKind → Nat
  | .f32 => 2490
  | .f64 => 3000
/-- the units: 2^-2400 -/
def UN : Nat := 2400

theorem prec (k : FloatKind) : Prec k.format (topQ k) := by
  cases k
  · exact prec32
  · exact prec64

theorem valf_elim {k : FloatKind} {x : Option Nat} {v : Int} (h : valf k x = some v) : ∃ b s m, ∃ P : Nat, x = some b ∧ k.format.read b = .number s m ((P : Int) - 2400) ∧ v = signed s m P ∧ 1326 ≤ P := by
  cases x with
  | none => cases h
  | some b =>
    have h1 : (match k.format.read b with | .number s m p => some (signed s m (p + 2400).toNat) | _ => none) = some v := h
    cases hr : k.format.read b with
    | nan s t => rw [hr] at h1; cases h1
    | infinity s => rw [hr] at h1; cases h1
    | number s m p =>
      rw [hr] at h1
      have hp := read_place k.format hr
      have hl := (prec k).lo
      refine ⟨b, s, m, (p + 2400).toNat, rfl, ?_, (Option.some.inj h1).symm, by omega⟩
      rw [hr]
      congr 1
      omega

theorem valf_intro {k : FloatKind} {b : Nat} {s : Bool} {m P : Nat} (h : k.format.read b = .number s m ((P : Int) - 2400)) : valf k (some b) = some (signed s m P) := by
  show (match k.format.read b with | .number s m p => some (signed s m (p + 2400).toNat) | _ => none) = _
  rw [h]
  show some (signed s m ((P : Int) - 2400 + 2400).toNat) = _
  congr 2
  omega

/-- v is w rounded on a grid of 2^Q, both at most 2^(N+Q) -/
def Rd (N Q : Nat) (v w : Int) : Prop := 2 * v ≤ 2 * w + 2 ^ Q ∧ 2 * w ≤ 2 * v + 2 ^ Q ∧ ((2 ^ Q : Int) ∣ w → v = w) ∧ -(2 ^ (N + Q)) ≤ v ∧ v ≤ 2 ^ (N + Q)

theorem signed_val (s : Bool) (m P : Nat) : signed s m P = if s then -((m * 2 ^ P : Nat) : Int) else ((m * 2 ^ P : Nat) : Int) := by
  unfold signed
  rw [Nat.shiftLeft_eq]

abbrev fbits1 (k : FloatKind) : Nat := k.format.fractionBits + 1

theorem castpow (n : Nat) : ((2 ^ n : Nat) : Int) = (2 : Int) ^ n := by rw [Int.natCast_pow]; rfl

theorem ipow_pos (n : Nat) : (0 : Int) < 2 ^ n := by rw [← castpow]; exact Int.natCast_pos.2 (Nat.two_pow_pos _)

theorem inonneg (n : Nat) : (0 : Int) ≤ 2 ^ n := Int.le_of_lt (ipow_pos n)
theorem natAbs_le_pow {r : Int} {n : Nat} (h1 : -(2 ^ n) ≤ r) (h2 : r ≤ 2 ^ n) : r.natAbs ≤ 2 ^ n := by rw [← castpow] at h1 h2; omega

theorem write_val (k : FloatKind) (s : Bool) (m P Q : Nat) (hQ1 : k.format.leastPlace + 2400 ≤ (Q : Int)) (hQ2 : Q ≤ topQ k) (hw : m * 2 ^ P ≤ 2 ^ (fbits1 k + Q)) :
    ∃ v, valf k (some (k.format.nearest s m ((P : Int) - 2400))) = some v ∧ Rd (fbits1 k) Q v (signed s m P) := by
  obtain ⟨m', P', h1, h2, h3, h4, h5⟩ := nearest_val (prec k) s m P Q hQ1 hQ2 hw
  refine ⟨_, valf_intro h1, ?_⟩
  rw [signed_val, signed_val]
  have c : ((2 ^ Q : Nat) : Int) = (2 : Int) ^ Q := castpow Q
  have c2 : ((2 ^ (fbits1 k + Q) : Nat) : Int) = (2 : Int) ^ (fbits1 k + Q) := castpow _
  unfold Rd
  rw [← c, ← c2]
  have d4 : ∀ w : Int, (w = ((m * 2 ^ P : Nat) : Int) ∨ w = -((m * 2 ^ P : Nat) : Int)) → ((2 ^ Q : Nat) : Int) ∣ w → m' * 2 ^ P' = m * 2 ^ P := by
    intro w hw hd
    refine h4 ?_
    rcases hw with hw | hw
    · rw [hw] at hd; exact Int.natCast_dvd_natCast.1 hd
    · rw [hw, Int.dvd_neg] at hd; exact Int.natCast_dvd_natCast.1 hd
  have h5' : m' * 2 ^ P' ≤ 2 ^ (fbits1 k + Q) := h5
  generalize m' * 2 ^ P' = A at *
  generalize hB : m * 2 ^ P = B at *
  generalize 2 ^ (fbits1 k + Q) = C at *
  generalize 2 ^ Q = D at *
  cases s with
  | false =>
    simp only [Bool.false_eq_true, if_false]
    exact ⟨by omega, by omega, fun hd => by rw [d4 _ (.inl rfl) hd], by omega, by omega⟩
  | true =>
    simp only [if_true]
    exact ⟨by omega, by omega, fun hd => by rw [d4 _ (.inr rfl) hd], by omega, by omega⟩

/-- the magnitude of a bounded value -/
theorem mag_le {s : Bool} {m P C : Nat} {w : Int} (h : w = signed s m P) (h1 : -(C : Int) ≤ w) (h2 : w ≤ C) : m * 2 ^ P ≤ C := by
  rw [signed_val] at h
  generalize m * 2 ^ P = A at *
  cases s <;> simp at h <;> omega

theorem signed_mul (s : Bool) (m a b : Nat) : signed s m (a + b) = signed s m a * 2 ^ b := by
  have c : ((2 : Int) ^ b) = ((2 ^ b : Nat) : Int) := (castpow b).symm
  rw [signed_val, signed_val, c, Nat.pow_add]
  cases s with
  | false => simp only [Bool.false_eq_true, if_false]; rw [← Int.natCast_mul, Nat.mul_assoc]
  | true => simp only [if_true]; rw [Int.neg_mul, ← Int.natCast_mul, Nat.mul_assoc]

theorem signed_total (t : Int) (sg : Bool) (h : t ≠ 0 → sg = decide (t < 0)) (B : Nat) : signed sg t.natAbs B = t * 2 ^ B := by
  have c : ((2 : Int) ^ B) = ((2 ^ B : Nat) : Int) := (castpow B).symm
  rw [signed_val, c, Int.natCast_mul]
  by_cases h0 : t = 0
  · subst h0; cases sg <;> simp
  · rw [h h0]
    by_cases hl : t < 0
    · rw [decide_eq_true hl, if_pos rfl, ← Int.neg_mul]
      congr 1
      omega
    · rw [decide_eq_false hl, if_neg (by simp)]
      congr 1
      omega

theorem sum_val {s t : Bool} {m n I J : Nat} : ∃ sg mag, ∃ B : Nat, (Datum.number s m ((I : Int) - 2400)).sum (Datum.number t n ((J : Int) - 2400)) = some (.number sg mag ((B : Int) - 2400)) ∧ signed sg mag B = signed s m I + signed t n J := by
  have hb : min ((I : Int) - 2400) ((J : Int) - 2400) = ((min I J : Nat) : Int) - 2400 := by omega
  have hi : ((I : Int) - 2400 - (((min I J : Nat) : Int) - 2400)).toNat = I - min I J := by omega
  have hj : ((J : Int) - 2400 - (((min I J : Nat) : Int) - 2400)).toNat = J - min I J := by omega
  simp only [Datum.sum, hb, hi, hj]
  refine ⟨_, _, min I J, rfl, ?_⟩
  rw [signed_total _ _ (fun h => by rw [if_neg h])]
  rw [Int.add_mul, ← signed_mul, ← signed_mul]
  congr 2 <;> omega

section
variable {k : FloatKind} {x y : Option Nat} {a b : Int} {Q : Nat}

theorem valf.add (hx : valf k x = some a) (hy : valf k y = some b) (hQ1 : k.format.leastPlace + 2400 ≤ (Q : Int)) (hQ2 : Q ≤ topQ k) (h1 : -(2 ^ (fbits1 k + Q)) ≤ a + b) (h2 : a + b ≤ 2 ^ (fbits1 k + Q)) : ∃ v, valf k (fop .add k x y) = some v ∧ Rd (fbits1 k) Q v (a + b) := by
  obtain ⟨bx, s, m, I, rfl, r1, rfl, _⟩ := valf_elim hx
  obtain ⟨by', t, n, J, rfl, r2, rfl, _⟩ := valf_elim hy
  obtain ⟨sg, mag, B, e1, e2⟩ := sum_val (s := s) (t := t) (m := m) (n := n) (I := I) (J := J)
  have e3 : fop .add k (some bx) (some by') = some (k.format.nearest sg mag ((B : Int) - 2400)) := by
    show ((k.format.read bx).sum (k.format.read by')).map k.format.write = _
    rw [r1, r2, e1]; rfl
  rw [e3, ← e2]
  have c2 : ((2 ^ (fbits1 k + Q) : Nat) : Int) = (2 : Int) ^ (fbits1 k + Q) := castpow _
  rw [← c2, ← e2] at h1 h2
  exact write_val k sg mag B Q hQ1 hQ2 (mag_le rfl h1 h2)

theorem signed_opp (s : Bool) (m P : Nat) : signed (!s) m P = -signed s m P := by
  rw [signed_val, signed_val]
  cases s <;> simp

theorem valf.sub (hx : valf k x = some a) (hy : valf k y = some b) (hQ1 : k.format.leastPlace + 2400 ≤ (Q : Int)) (hQ2 : Q ≤ topQ k) (h1 : -(2 ^ (fbits1 k + Q)) ≤ a - b) (h2 : a - b ≤ 2 ^ (fbits1 k + Q)) : ∃ v, valf k (fop .sub k x y) = some v ∧ Rd (fbits1 k) Q v (a - b) := by
  obtain ⟨bx, s, m, I, rfl, r1, rfl, _⟩ := valf_elim hx
  obtain ⟨by', t, n, J, rfl, r2, rfl, _⟩ := valf_elim hy
  obtain ⟨sg, mag, B, e1, e2⟩ := sum_val (s := s) (t := !t) (m := m) (n := n) (I := I) (J := J)
  have e3 : fop .sub k (some bx) (some by') = some (k.format.nearest sg mag ((B : Int) - 2400)) := by
    show ((k.format.read bx).sum (k.format.read by').opposite).map k.format.write = _
    rw [r1, r2]
    show ((Datum.number s m ((I : Int) - 2400)).sum (Datum.number (!t) n ((J : Int) - 2400))).map k.format.write = _
    rw [e1]; rfl
  rw [signed_opp] at e2
  have e4 : signed s m I - signed t n J = signed sg mag B := by rw [e2]; omega
  rw [e3, e4]
  have c2 : ((2 ^ (fbits1 k + Q) : Nat) : Int) = (2 : Int) ^ (fbits1 k + Q) := castpow _
  rw [← c2, e4] at h1 h2
  exact write_val k sg mag B Q hQ1 hQ2 (mag_le rfl h1 h2)

theorem signed_prod (s t : Bool) (m n I J : Nat) : signed (s ^^ t) (m * n) (I + J) = signed s m I * signed t n J := by
  have e : (m * n * 2 ^ (I + J) : Nat) = (m * 2 ^ I) * (n * 2 ^ J) := by
    rw [Nat.pow_add]
    simp only [Nat.mul_assoc, Nat.mul_left_comm]
  rw [signed_val, signed_val, signed_val, e]
  generalize m * 2 ^ I = A
  generalize n * 2 ^ J = B
  cases s <;> cases t <;> simp [Int.natCast_mul, Int.neg_mul, Int.mul_neg]

theorem valf.mul (hx : valf k x = some a) (hy : valf k y = some b) (hQ1 : k.format.leastPlace + 2400 ≤ (Q : Int)) (hQ2 : Q ≤ topQ k) {w : Int} (hw : w * 2 ^ UN = a * b) (h1 : -(2 ^ (fbits1 k + Q)) ≤ w) (h2 : w ≤ 2 ^ (fbits1 k + Q)) : ∃ v, valf k (fop .mul k x y) = some v ∧ Rd (fbits1 k) Q v w := by
  obtain ⟨bx, s, m, I, rfl, r1, rfl, i1⟩ := valf_elim hx
  obtain ⟨by', t, n, J, rfl, r2, rfl, j1⟩ := valf_elim hy
  have e3 : fop .mul k (some bx) (some by') = some (k.format.nearest (s ^^ t) (m * n) (((I + J - 2400 : Nat) : Int) - 2400)) := by
    show ((k.format.read bx).product (k.format.read by')).map k.format.write = _
    rw [r1, r2]
    have e : (I : Int) - 2400 + ((J : Int) - 2400) = ((I + J - 2400 : Nat) : Int) - 2400 := by omega
    show some (k.format.nearest (s ^^ t) (m * n) ((I : Int) - 2400 + ((J : Int) - 2400))) = _
    rw [e]
  have e2 : w = signed (s ^^ t) (m * n) (I + J - 2400) := by
    have h3 : signed (s ^^ t) (m * n) (I + J - 2400) * 2 ^ UN = signed s m I * signed t n J := by
      have e : I + J - 2400 + UN = I + J := by unfold UN; omega
      rw [← signed_mul, ← signed_prod, e]
    rw [← h3] at hw
    refine Int.eq_of_mul_eq_mul_right ?_ hw
    rw [← castpow]
    have := Nat.two_pow_pos UN
    omega
  rw [e3, e2]
  have c2 : ((2 ^ (fbits1 k + Q) : Nat) : Int) = (2 : Int) ^ (fbits1 k + Q) := castpow _
  rw [← c2] at h1 h2
  exact write_val k _ _ _ Q hQ1 hQ2 (mag_le e2 h1 h2)

/-- a product has a value in these units -/
theorem mul_unit (hx : valf k x = some a) (hy : valf k y = some b) : ∃ w : Int, w * 2 ^ UN = a * b := by
  obtain ⟨bx, s, m, I, rfl, r1, rfl, i1⟩ := valf_elim hx
  obtain ⟨by', t, n, J, rfl, r2, rfl, j1⟩ := valf_elim hy
  refine ⟨signed (s ^^ t) (m * n) (I + J - 2400), ?_⟩
  have e : I + J - 2400 + UN = I + J := by unfold UN; omega
  rw [← signed_mul, ← signed_prod, e]

theorem valf.order (hx : valf k x = some a) (hy : valf k y = some b) : ford k x y = some (compare a b) := by
  obtain ⟨bx, s, m, I, rfl, r1, rfl, _⟩ := valf_elim hx
  obtain ⟨by', t, n, J, rfl, r2, rfl, _⟩ := valf_elim hy
  show (k.format.read bx).order (k.format.read by') = _
  rw [r1, r2]
  have hb : min ((I : Int) - 2400) ((J : Int) - 2400) = ((min I J : Nat) : Int) - 2400 := by omega
  have hi : ((I : Int) - 2400 - (((min I J : Nat) : Int) - 2400)).toNat = I - min I J := by omega
  have hj : ((J : Int) - 2400 - (((min I J : Nat) : Int) - 2400)).toNat = J - min I J := by omega
  simp only [Datum.order, hb, hi, hj]
  congr 1
  have e1 : signed s m I = signed s m (I - min I J) * 2 ^ min I J := by rw [← signed_mul]; congr 1; omega
  have e2 : signed t n J = signed t n (J - min I J) * 2 ^ min I J := by rw [← signed_mul]; congr 1; omega
  rw [e1, e2]
  have c : ((2 : Int) ^ min I J) = ((2 ^ min I J : Nat) : Int) := (castpow _).symm
  rw [c]
  have hp : (0 : Int) < ((2 ^ min I J : Nat) : Int) := Int.natCast_pos.2 (Nat.two_pow_pos _)
  generalize ((2 ^ min I J : Nat) : Int) = D at *
  generalize signed s m (I - min I J) = A
  generalize signed t n (J - min I J) = B
  have key : compare A B = compare (A * D) (B * D) := by
    rcases Int.lt_trichotomy A B with h | h | h
    · rw [Int.compare_eq_lt.2 h, Int.compare_eq_lt.2 (Int.mul_lt_mul_of_pos_right h hp)]
    · rw [h, Int.compare_eq_eq.2 rfl, Int.compare_eq_eq.2 rfl]
    · rw [Int.compare_eq_gt.2 h, Int.compare_eq_gt.2 (Int.mul_lt_mul_of_pos_right h hp)]
  exact key

theorem cmp_cases (a b : Int) : (compare a b = .lt ∧ a < b) ∨ (compare a b = .eq ∧ a = b) ∨ (compare a b = .gt ∧ b < a) := by
  rcases Int.lt_trichotomy a b with h | h | h
  · exact .inl ⟨Int.compare_eq_lt.2 h, h⟩
  · exact .inr (.inl ⟨Int.compare_eq_eq.2 h, h⟩)
  · exact .inr (.inr ⟨Int.compare_eq_gt.2 h, h⟩)

theorem valf.eql (hx : valf k x = some a) (hy : valf k y = some b) : fcmp .eql k x y = decide (a = b) := by
  show (ford k x y == some .eq) = _
  rw [valf.order hx hy]
  rcases cmp_cases a b with ⟨h, h2⟩ | ⟨h, h2⟩ | ⟨h, h2⟩ <;> rw [h] <;> symm
  · rw [decide_eq_false (by omega)]; rfl
  · rw [decide_eq_true h2]; rfl
  · rw [decide_eq_false (by omega)]; rfl
theorem valf.gtr (hx : valf k x = some a) (hy : valf k y = some b) : fcmp .gtr k x y = decide (b < a) := by
  show (ford k x y == some .gt) = _
  rw [valf.order hx hy]
  rcases cmp_cases a b with ⟨h, h2⟩ | ⟨h, h2⟩ | ⟨h, h2⟩ <;> rw [h] <;> symm
  · rw [decide_eq_false (by omega)]; rfl
  · rw [decide_eq_false (by omega)]; rfl
  · rw [decide_eq_true h2]; rfl
theorem valf.lss (hx : valf k x = some a) (hy : valf k y = some b) : fcmp .lss k x y = decide (a < b) := by
  show (ford k x y == some .lt) = _
  rw [valf.order hx hy]
  rcases cmp_cases a b with ⟨h, h2⟩ | ⟨h, h2⟩ | ⟨h, h2⟩ <;> rw [h] <;> symm
  · rw [decide_eq_true h2]; rfl
  · rw [decide_eq_false (by omega)]; rfl
  · rw [decide_eq_false (by omega)]; rfl
theorem valf.geq (hx : valf k x = some a) (hy : valf k y = some b) : fcmp .geq k x y = decide (b ≤ a) := by
  show (ford k x y == some .gt || ford k x y == some .eq) = _
  rw [valf.order hx hy]
  rcases cmp_cases a b with ⟨h, h2⟩ | ⟨h, h2⟩ | ⟨h, h2⟩ <;> rw [h] <;> symm
  · rw [decide_eq_false (by omega)]; rfl
  · rw [decide_eq_true (by omega)]; rfl
  · rw [decide_eq_true (by omega)]; rfl
theorem valf.leq (hx : valf k x = some a) (hy : valf k y = some b) : fcmp .leq k x y = decide (a ≤ b) := by
  show (ford k x y == some .lt || ford k x y == some .eq) = _
  rw [valf.order hx hy]
  rcases cmp_cases a b with ⟨h, h2⟩ | ⟨h, h2⟩ | ⟨h, h2⟩ <;> rw [h] <;> symm
  · rw [decide_eq_true (by omega)]; rfl
  · rw [decide_eq_true (by omega)]; rfl
  · rw [decide_eq_false (by omega)]; rfl

/-- narrowed: rounded once more -/
theorem valf.fcv {x : Option Nat} (hx : valf .f64 x = some a) (hQ1 : 2251 ≤ Q) (hQ2 : Q ≤ 2490) (h1 : -(2 ^ (24 + Q)) ≤ a) (h2 : a ≤ 2 ^ (24 + Q)) : ∃ y v, Go.H.fcv .f64 .f32 x = some y ∧ valf .f32 y = some v ∧ Rd 24 Q v a := by
  obtain ⟨bx, s, m, I, rfl, r1, rfl, i1⟩ := valf_elim hx
  have c2 : ((2 ^ (24 + Q) : Nat) : Int) = (2 : Int) ^ (24 + Q) := castpow _
  rw [← c2] at h1 h2
  have hL : FloatKind.f32.format.leastPlace = -149 := by decide
  obtain ⟨m', P', q1, _⟩ := nearest_val (prec .f32) s m I Q (by rw [hL]; omega) hQ2 (mag_le rfl h1 h2)
  obtain ⟨v, q2, q3⟩ := write_val .f32 s m I Q (by rw [hL]; omega) hQ2 (mag_le rfl h1 h2)
  refine ⟨some (FloatKind.f32.format.nearest s m ((I : Int) - 2400)), v, ?_, q2, q3⟩
  show (floatToFloatBits .f64 bx .f32).map some = _
  have hd' : FloatKind.f64.decode bx = .number s m ((I : Int) - 2400) := r1
  have hfin : (FloatKind.f32.decode (FloatKind.f32.encode (.number s m ((I : Int) - 2400)))).isInfinity = false := by
    have : FloatKind.f32.decode (FloatKind.f32.encode (.number s m ((I : Int) - 2400))) = .number s m' ((P' : Int) - 2400) := q1
    rw [this]; rfl
  unfold floatToFloatBits
  rw [if_neg (by decide), hd']
  simp only [hfin]
  rfl

/-- widened: nothing turns -/
theorem valf.wid {x : Option Nat} (hx : valf .f32 x = some a) : valf .f64 (Go.H.wid x) = some a := by
  obtain ⟨bx, s, m, I, rfl, r1, rfl, i1⟩ := valf_elim hx
  rcases wid_cases bx with ⟨s', m', p', e1, e2, e3, e4, e5⟩ | ⟨s', e1, _⟩ | ⟨s', t, e1, _⟩
  · have r1' : single.read bx = .number s m ((I : Int) - 2400) := r1
    rw [r1'] at e1
    cases e1
    rw [e5]
    have hL : FloatKind.f64.format.leastPlace = -1074 := by decide
    have hb : fbits1 .f64 = 53 := by decide
    have hm : m * 2 ^ I ≤ 2 ^ (fbits1 .f64 + I) := by
      rw [hb, Nat.pow_add]
      refine Nat.mul_le_mul_right _ (Nat.le_of_lt (Nat.lt_trans e2 (by decide)))
    obtain ⟨v, q2, q3⟩ := write_val .f64 s m I I (by rw [hL]; omega) (by show I ≤ 3000; omega) hm
    have hd : (2 ^ I : Int) ∣ signed s m I := by
      have := signed_mul s m 0 I
      rw [Nat.zero_add] at this
      rw [this]
      exact ⟨_, Int.mul_comm _ _⟩
    rw [← q3.2.2.1 hd]
    exact q2
  · have r1' : single.read bx = .number s m ((I : Int) - 2400) := r1
    rw [r1'] at e1; cases e1
  · have r1' : single.read bx = .number s m ((I : Int) - 2400) := r1
    rw [r1'] at e1; cases e1
end
end Go.H
