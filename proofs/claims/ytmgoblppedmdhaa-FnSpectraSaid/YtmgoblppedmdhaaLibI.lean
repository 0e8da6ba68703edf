/- The library: frames told in part, a judgement on code over them, floats. -/
import Derived.Test.YtmgoblppedmdhaaLibH
import Derived.Test.YtmgoblppedmdhaaLibE
import Derived.Test.YtmgoblppedmdhaaLibF
/- Values: signs, whole numbers, roots. -/
set_option linter.unusedVariables false
namespace Go.H
open Go Ieee

theorem sq_le_pow {r : Int} {n : Nat} (h1 : -(2 ^ n) ≤ r) (h2 : r ≤ 2 ^ n) : r * r ≤ 2 ^ n * 2 ^ n := by
  have a1 := natAbs_le_pow h1 h2
  have a2 := Nat.mul_le_mul a1 a1
  rw [← Int.natAbs_mul] at a2
  have a3 : ((2 ^ n * 2 ^ n : Nat) : Int) = 2 ^ n * 2 ^ n := by rw [Int.natCast_mul, castpow]
  rw [← a3]
  omega

theorem read_neg (k : FloatKind) {b : Nat} (hb : b < 2 ^ k.format.width) {s : Bool} {m : Nat} {p : Int} (h : k.format.read b = .number s m p) : k.format.read (Op.negFloat k b) = .number (!s) m p := by
  have key : ∀ (w : Nat) (b : Nat), b < 2 ^ (w + 1) → (b ^^^ 2 ^ w) % 2 ^ w = b % 2 ^ w ∧ ((b ^^^ 2 ^ w) / 2 ^ w % 2 == 1) = !(b / 2 ^ w % 2 == 1) := by
    intro w b hb
    have h1 : (b ^^^ 2 ^ w) % 2 ^ w = b % 2 ^ w := by
      rw [Nat.xor_mod_two_pow, Nat.mod_self, Nat.xor_zero]
    have h2 : (b ^^^ 2 ^ w) / 2 ^ w = b / 2 ^ w ^^^ 1 := by
      rw [← Nat.shiftRight_eq_div_pow, Nat.shiftRight_xor_distrib, Nat.shiftRight_eq_div_pow, Nat.shiftRight_eq_div_pow, Nat.div_self (Nat.two_pow_pos w)]
    have h3 : b / 2 ^ w < 2 := Nat.div_lt_of_lt_mul (by rw [← Nat.pow_succ]; exact hb)
    refine ⟨h1, ?_⟩
    rw [h2]
    generalize b / 2 ^ w = q at h3
    have : q = 0 ∨ q = 1 := by omega
    rcases this with h | h <;> rw [h] <;> rfl
  have hw : k.format.signWeight = 2 ^ (k.format.exponentBits + k.format.fractionBits) := rfl
  have hwid : k.format.width = (k.format.exponentBits + k.format.fractionBits) + 1 := by unfold Format.width; omega
  rw [hwid] at hb
  obtain ⟨k1, k2⟩ := key (k.format.exponentBits + k.format.fractionBits) b hb
  unfold Format.read at h ⊢
  unfold Op.negFloat
  rw [hw] at h ⊢
  rw [k1, k2]
  dsimp only at h ⊢
  split at h
  · rename_i hc; rw [if_pos hc]; cases h; rfl
  · rename_i hc
    rw [if_neg hc]
    split at h
    · rename_i hc2; rw [if_pos hc2]; cases h; rfl
    · split at h <;> cases h

section
variable {k : FloatKind} {x y : Option Nat} {a b : Int} {Q : Nat}

theorem valf.sqrt {x : Option Nat} (hx : valf .f64 x = some a) (hn : Nn x) (e : Nat) (he : 1379 ≤ e) (he2 : e ≤ 2440) (h1 : a < 2 ^ (2 * e - 2400)) : ∃ v, valf .f64 (fsqrt x) = some v ∧ 0 ≤ v ∧ v ≤ 2 ^ e := by
  obtain ⟨bx, s, m, I, rfl, r1, rfl, i1⟩ := valf_elim hx
  have r1' : double.read bx = .number s m ((I : Int) - 2400) := r1
  have hs := hn bx rfl
  rw [r1'] at hs
  have hsq : fsqrt (some bx) = ((double.read bx).root 54).map double.write := rfl
  rw [hsq, r1']
  unfold Datum.root
  dsimp only
  by_cases hm : m = 0
  · subst hm
    rw [if_pos rfl]
    refine ⟨0, ?_, Int.le_refl _, Int.le_of_lt (ipow_pos e)⟩
    show valf .f64 (some (double.nearest s 0 ((I : Int) - 2400))) = some 0
    unfold Format.nearest
    rw [if_pos rfl]
    cases s <;> decide +kernel
  · have hs : s = false := by
      rcases hs with hs | hs
      · exact hs
      · exact absurd hs hm
    subst hs
    rw [if_neg hm, if_neg (by simp)]
    generalize hmore : 2 * 54 - m.log2 + ((((I : Int) - 2400) - ((2 * 54 - m.log2 : Nat) : Int)) % 2).toNat = more
    have hmle : more ≤ 109 := by omega
    have hev : (((I : Int) - 2400) - (more : Int)) % 2 = 0 := by omega
    have hsq := rootFrom_sq (m <<< more) ((m <<< more).log2 / 2 + 1) 0 (Nat.zero_le _)
    generalize Datum.rootFrom (m <<< more) ((m <<< more).log2 / 2 + 1) 0 = w at *
    have hbt : ∀ b : Bool, b.toNat ≤ 1 := by decide
    have hb := hbt (w * w != m <<< more)
    generalize (w * w != m <<< more).toNat = c at *
    -- the place of the root
    obtain ⟨P, hP⟩ : ∃ P : Nat, (((I : Int) - 2400) - (more : Int)) / 2 - 1 = (P : Int) - 2400 := ⟨((((I : Int) - 2400) - (more : Int)) / 2 - 1 + 2400).toNat, by omega⟩
    rw [hP]
    show ∃ v, valf .f64 (some (double.nearest false (2 * w + c) ((P : Int) - 2400))) = some v ∧ 0 ≤ v ∧ v ≤ 2 ^ e
    have hI : I = 2 * (P + 1) + more - 2400 ∧ 2400 ≤ 2 * (P + 1) + more := by omega
    -- w * 2 ^ (P + 1) < 2 ^ e
    have hval : m * 2 ^ I < 2 ^ (2 * e - 2400) := by
      rw [signed_val, if_neg (by simp), ← castpow] at h1
      exact Int.ofNat_lt.1 h1
    have hww : w * 2 ^ (P + 1) < 2 ^ e := by
      refine Classical.byContradiction fun hge => ?_
      have g1 : 2 ^ e ≤ w * 2 ^ (P + 1) := by omega
      have g2 := Nat.mul_le_mul g1 g1
      rw [← Nat.pow_add] at g2
      have g3 : w * 2 ^ (P + 1) * (w * 2 ^ (P + 1)) = w * w * 2 ^ (2 * (P + 1)) := by
        have : 2 ^ (2 * (P + 1)) = 2 ^ (P + 1) * 2 ^ (P + 1) := by rw [← Nat.pow_add]; congr 1; omega
        rw [this]
        simp only [Nat.mul_assoc, Nat.mul_left_comm]
      rw [g3] at g2
      have g4 : w * w * 2 ^ (2 * (P + 1)) ≤ m <<< more * 2 ^ (2 * (P + 1)) := Nat.mul_le_mul_right _ hsq
      rw [Nat.shiftLeft_eq, Nat.mul_assoc m, ← Nat.pow_add] at g4
      have g5 : more + 2 * (P + 1) = I + UN := by unfold UN; omega
      rw [g5, Nat.pow_add, ← Nat.mul_assoc] at g4
      have g6 : m * 2 ^ I * 2 ^ UN < 2 ^ (2 * e - 2400) * 2 ^ UN := Nat.mul_lt_mul_of_pos_right hval (Nat.two_pow_pos _)
      rw [← Nat.pow_add] at g6
      have g7 : 2 * e - 2400 + UN = e + e := by unfold UN; omega
      rw [g7] at g6
      omega
    have hbound : (2 * w + c) * 2 ^ P ≤ 2 ^ e := by
      by_cases hPe : P + 1 ≤ e
      · have h2 : 2 ^ e = 2 ^ (e - (P + 1)) * 2 ^ (P + 1) := by rw [← Nat.pow_add]; congr 1; omega
        rw [h2] at hww ⊢
        have h3 := Nat.lt_of_mul_lt_mul_right hww
        have h4 : 2 ^ (P + 1) = 2 * 2 ^ P := by rw [Nat.pow_succ, Nat.mul_comm]
        rw [h4, ← Nat.mul_assoc]
        exact Nat.mul_le_mul_right _ (by omega)
      · have hw0 : w = 0 := by
          refine Classical.byContradiction fun h => ?_
          have a1 : 2 ^ e ≤ 2 ^ (P + 1) := Nat.pow_le_pow_right (by decide) (by omega)
          have a2 : 1 * 2 ^ (P + 1) ≤ w * 2 ^ (P + 1) := Nat.mul_le_mul_right _ (by omega)
          omega
        -- then the number itself is nought
        exact absurd hval (by
          have a1 : 1 * 2 ^ I ≤ m * 2 ^ I := Nat.mul_le_mul_right _ (by omega)
          have a2 : 2 ^ (2 * e - 2400) ≤ 2 ^ I := Nat.pow_le_pow_right (by decide) (by omega)
          omega)
    have hb53 : fbits1 .f64 = 53 := by decide
    have hL : FloatKind.f64.format.leastPlace = -1074 := by decide
    obtain ⟨v, v1, v2⟩ := write_val .f64 false (2 * w + c) P (e - 53) (by rw [hL]; omega) (by show e - 53 ≤ 3000; omega) (by rw [hb53, show 53 + (e - 53) = e by omega]; exact hbound)
    refine ⟨v, v1, ?_, ?_⟩
    · obtain ⟨s', m', P', r, q1, q2, q3⟩ := sign_val (2 * w + c) P (e - 53) (by omega) (by omega) (by rw [show 53 + (e - 53) = e by omega]; exact hbound)
      have v1' : valf .f64 (some (double.nearest false (2 * w + c) ((P : Int) - 2400))) = some v := v1
      rw [q1] at v1'
      rw [← Option.some.inj v1']
      exact q3
    · have := v2.2.2.2.2
      rw [hb53, show 53 + (e - 53) = e by omega] at this
      exact this
where
  sign_val (m P Q : Nat) (h1 : 1326 ≤ Q) (h2 : Q ≤ 3000) (h : m * 2 ^ P ≤ 2 ^ (53 + Q)) : ∃ (s' : Bool) (m' P' : Nat) (r : Int), valf .f64 (some (double.nearest false m ((P : Int) - 2400))) = some r ∧ r = signed false m' P' ∧ 0 ≤ r := by
    have hL : double.leastPlace = -1074 := by decide
    obtain ⟨m', P', a1, _⟩ := nearest_val prec64 false m P Q (by rw [hL]; omega) h2 h
    refine ⟨false, m', P', _, valf_intro (k := .f64) a1, rfl, ?_⟩
    rw [signed_val, if_neg (by simp)]
    exact Int.natCast_nonneg _
end
end Go.H

/- A number by itself: what the quotient of equal points comes to. -/
set_option linter.unusedVariables false
namespace Go.H
open Go Ieee

theorem nearest_signs (f : Format) {m : Nat} (hm : m ≠ 0) (p : Int) : ∃ r, r ≤ f.infRung ∧ ∀ s, f.nearest s m p = f.word s r := by
  unfold Format.nearest
  simp only [hm, if_false]
  have hc : ∀ s : Bool, ∀ n d, Toward.even.cut s n d = Toward.even.cut false n d := by intro s n d; rw [cut_even, cut_even]
  refine ⟨min ((max (p + ↑m.log2 - ↑f.fractionBits) f.leastPlace - f.leastPlace).toNat * f.binade + Toward.even.cut false (m <<< (p - max (p + ↑m.log2 - ↑f.fractionBits) f.leastPlace).toNat) (max (p + ↑m.log2 - ↑f.fractionBits) f.leastPlace - p).toNat) f.infRung, Nat.min_le_right _ _, fun s => ?_⟩
  rw [hc s]

theorem read_signs (f : Format) {r : Nat} (h : r ≤ f.infRung) : (f.read (f.word true r)).opposite = f.read (f.word false r) ∧ (f.read (f.word false r)).opposite = f.read (f.word true r) := by
  have hlt := f.infRung_lt
  rw [read_word f true (by omega), read_word f false (by omega)]
  by_cases h1 : r < f.binade
  · rw [if_pos h1, if_pos h1]; exact ⟨rfl, rfl⟩
  · rw [if_neg h1, if_neg h1]
    by_cases h2 : r < f.infRung
    · rw [if_pos h2, if_pos h2]; exact ⟨rfl, rfl⟩
    · rw [if_neg h2, if_neg h2, if_pos (by omega), if_pos (by omega)]; exact ⟨rfl, rfl⟩

theorem opp_nearest (m : Nat) (p : Int) (s : Bool) : (double.read (double.nearest s m p)).opposite = double.read (double.nearest (!s) m p) := by
  by_cases hm : m = 0
  · subst hm
    have e : ∀ s : Bool, double.nearest s 0 p = double.word s 0 := by intro s; unfold Format.nearest; rw [if_pos rfl]
    rw [e, e]
    cases s <;> decide
  · obtain ⟨r, hr, h⟩ := nearest_signs double hm p
    rw [h, h]
    cases s
    · exact (read_signs double hr).2
    · exact (read_signs double hr).1

/-- a 64-bit float that is a number -/
def Nb (x : Option Nat) : Prop := ∃ b s m p, x = some b ∧ b < 2 ^ 64 ∧ double.read b = .number s m p

theorem nb_wid {x : Option Nat} {a : Int} (h : valf .f32 x = some a) : Nb (wid x) := by
  obtain ⟨b, s, m, I, rfl, r1, _, _⟩ := valf_elim h
  have h64 := valf.wid h
  rcases wid_cases b with ⟨s', m', p', e1, e2, e3, e4, e5⟩ | ⟨s', e1, _⟩ | ⟨s', t, e1, _⟩
  · rw [e5] at h64 ⊢
    obtain ⟨b2, s2, m2, I2, e6, r2, _, _⟩ := valf_elim h64
    cases e6
    refine ⟨_, s2, m2, _, rfl, ?_, r2⟩
    show double.nearest s' m' p' < 2 ^ 64
    have hw : ∃ r, double.nearest s' m' p' = double.word s' r ∧ r ≤ double.infRung := by
      by_cases h0 : m' = 0
      · refine ⟨0, ?_, by decide⟩
        unfold Format.nearest; rw [if_pos h0]
      · obtain ⟨r, hr, hh⟩ := nearest_signs double h0 p'
        exact ⟨r, hh s', hr⟩
    obtain ⟨r, hr, hr2⟩ := hw
    rw [hr]
    have c1 : double.infRung = 9218868437227405312 := by decide
    have c2 : double.signWeight = 9223372036854775808 := by decide
    rw [c1] at hr2
    unfold Format.word
    rw [c2]
    split <;> omega
  · have r1' : single.read b = .number s m ((I : Int) - 2400) := r1
    rw [r1'] at e1; cases e1
  · have r1' : single.read b = .number s m ((I : Int) - 2400) := r1
    rw [r1'] at e1; cases e1

/-- the real part of the quotient of equal points: above the line stands what stands below -/
theorem times_self {x y : Option Nat} (hx : Nb x) (hy : Nb y) : fop .sub .f64 (fop .mul .f64 x x) (fop .mul .f64 y (fneg .f64 y)) = fop .add .f64 (fop .mul .f64 x x) (fop .mul .f64 y y) := by
  obtain ⟨a, s, m, p, rfl, _, ra⟩ := hx
  obtain ⟨b, t, n, q, rfl, hb, rb⟩ := hy
  have rn : double.read (Op.negFloat .f64 b) = .number (!t) n q := read_neg .f64 hb rb
  have e1 : fop .mul .f64 (some b) (fneg .f64 (some b)) = some (double.nearest (t ^^ !t) (n * n) (q + q)) := by
    show ((double.read b).product (double.read (Op.negFloat .f64 b))).map double.write = _
    rw [rb, rn]; rfl
  have e2 : fop .mul .f64 (some b) (some b) = some (double.nearest (t ^^ t) (n * n) (q + q)) := by
    show ((double.read b).product (double.read b)).map double.write = _
    rw [rb]; rfl
  have e3 : fop .mul .f64 (some a) (some a) = some (double.nearest (s ^^ s) (m * m) (p + p)) := by
    show ((double.read a).product (double.read a)).map double.write = _
    rw [ra]; rfl
  rw [e1, e2, e3]
  show ((double.read (double.nearest (s ^^ s) (m * m) (p + p))).sum (double.read (double.nearest (t ^^ !t) (n * n) (q + q))).opposite).map double.write = ((double.read (double.nearest (s ^^ s) (m * m) (p + p))).sum (double.read (double.nearest (t ^^ t) (n * n) (q + q)))).map double.write
  rw [opp_nearest]
  cases t <;> rfl

/-- the other part: nothing -/
theorem cross_self {x y : Option Nat} {v : Int} (hx : Nb x) (hy : Nb y) (hv : valf .f64 (fop .mul .f64 y x) = some v) : fop .add .f64 (fop .mul .f64 x (fneg .f64 y)) (fop .mul .f64 y x) = some 0 := by
  obtain ⟨a, s, m, p, rfl, _, ra⟩ := hx
  obtain ⟨b, t, n, q, rfl, hb, rb⟩ := hy
  have rn : double.read (Op.negFloat .f64 b) = .number (!t) n q := read_neg .f64 hb rb
  have e1 : fop .mul .f64 (some a) (fneg .f64 (some b)) = some (double.nearest (!(t ^^ s)) (n * m) (q + p)) := by
    have : fop .mul .f64 (some a) (fneg .f64 (some b)) = some (double.nearest (s ^^ !t) (m * n) (p + q)) := by
      show ((double.read a).product (double.read (Op.negFloat .f64 b))).map double.write = _
      rw [ra, rn]; rfl
    rw [this, Nat.mul_comm m n, Int.add_comm p q]
    cases s <;> cases t <;> rfl
  have e2 : fop .mul .f64 (some b) (some a) = some (double.nearest (t ^^ s) (n * m) (q + p)) := by
    show ((double.read b).product (double.read a)).map double.write = _
    rw [rb, ra]; rfl
  rw [e2] at hv
  obtain ⟨c, u, k, I, e3, r3, _, _⟩ := valf_elim hv
  cases e3
  rw [e1, e2]
  show ((double.read (double.nearest (!(t ^^ s)) (n * m) (q + p))).sum (double.read (double.nearest (t ^^ s) (n * m) (q + p)))).map double.write = some 0
  have r3' : double.read (double.nearest (t ^^ s) (n * m) (q + p)) = .number u k ((I : Int) - 2400) := r3
  rw [← opp_nearest, r3']
  show ((Datum.number (!u) k ((I : Int) - 2400)).sum (Datum.number u k ((I : Int) - 2400))).map double.write = some 0
  have := sum_opp (!u) k ((I : Int) - 2400)
  have e4 : (Datum.number (!u) k ((I : Int) - 2400)).opposite = Datum.number u k ((I : Int) - 2400) := by
    show Datum.number (!(!u)) k _ = _
    rw [Bool.not_not]
  rw [e4] at this
  rw [this]
  show some (double.nearest false 0 ((I : Int) - 2400)) = some 0
  unfold Format.nearest
  rw [if_pos rfl]
  decide

theorem quo_self {x : Option Nat} (h : PosW x) : fop .quo .f64 x x = some 4607182418800017408 := by
  obtain ⟨b, m, p, rfl, r, hm⟩ := h
  show ((double.read b).quotient 54 (double.read b)).map double.write = _
  rw [r]
  simp only [Datum.quotient, hm, if_false]
  generalize hmore : 54 + m.log2 - m.log2 = more
  have e1 : m <<< more / m = 2 ^ more := by rw [Nat.shiftLeft_eq, Nat.mul_comm, Nat.mul_div_cancel _ (Nat.pos_of_ne_zero hm)]
  have e2 : m <<< more % m = 0 := by rw [Nat.shiftLeft_eq, Nat.mul_mod_right]
  rw [e1, e2]
  show some (double.nearest (false ^^ false) (2 * 2 ^ more + (0 != 0).toNat) (p - p - (more : Int) - 1)) = _
  have e3 : 2 * 2 ^ more + (0 != 0).toNat = 1 * 2 ^ (more + 1) := by
    have : (0 != 0).toNat = 0 := by decide
    rw [this, Nat.pow_succ]; omega
  have e4 : p - p - (more : Int) - 1 = 0 - ((more + 1 : Nat) : Int) := by omega
  rw [e3, e4, nearest_mul]
  decide +kernel

theorem quo_zero {x : Option Nat} (h : PosW x) : fop .quo .f64 (some 0) x = some 0 := by
  obtain ⟨b, m, p, rfl, r, hm⟩ := h
  show ((double.read 0).quotient 54 (double.read b)).map double.write = _
  have r0 : double.read 0 = .number false 0 (-1074) := by decide
  rw [r, r0]
  simp only [Datum.quotient, hm, if_false]
  have e1 : ∀ more, 0 <<< more / m = 0 := by intro more; rw [Nat.shiftLeft_eq, Nat.zero_mul, Nat.zero_div]
  have e2 : ∀ more, 0 <<< more % m = 0 := by intro more; rw [Nat.shiftLeft_eq, Nat.zero_mul, Nat.zero_mod]
  rw [e1, e2]
  show some (double.nearest (false ^^ false) 0 _) = _
  unfold Format.nearest
  rw [if_pos rfl]
  decide
end Go.H
