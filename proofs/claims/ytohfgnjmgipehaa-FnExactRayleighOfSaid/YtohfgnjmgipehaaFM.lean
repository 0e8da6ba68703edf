/- Rounding is monotone; sums of many terms. -/
import Derived.Test.YtohfgnjmgipehaaFB6
set_option linter.unusedVariables false
namespace Go.H
open Go Ieee

theorem cut_even (s : Bool) (n d : Nat) : Toward.even.cut s n d = n / 2 ^ d + (if 2 ^ d < 2 * (n % 2 ^ d) ∨ (2 ^ d = 2 * (n % 2 ^ d) ∧ n / 2 ^ d % 2 = 1) then 1 else 0) := by
  unfold Toward.cut
  dsimp only
  have hp := Nat.two_pow_pos d
  by_cases hd : d ≤ n.log2 + 2
  · rw [Nat.min_eq_left hd, Nat.one_shiftLeft]
    congr 1
    by_cases h1 : 2 ^ d < 2 * (n % 2 ^ d)
    · rw [if_pos (.inl h1), decide_eq_true h1]; rfl
    · by_cases h2 : 2 ^ d = 2 * (n % 2 ^ d) ∧ n / 2 ^ d % 2 = 1
      · rw [if_pos (.inr h2), decide_eq_false h1, show (2 ^ d == 2 * (n % 2 ^ d)) = true from beq_iff_eq.2 h2.1, show (n / 2 ^ d % 2 == 1) = true from beq_iff_eq.2 h2.2]; rfl
      · rw [if_neg (by rintro (h | h); exact h1 h; exact h2 h), decide_eq_false h1]
        have : ((2 ^ d == 2 * (n % 2 ^ d)) && (n / 2 ^ d % 2 == 1)) = false := by
          rw [Bool.and_eq_false_iff, beq_eq_false_iff_ne, beq_eq_false_iff_ne]
          by_cases h3 : 2 ^ d = 2 * (n % 2 ^ d)
          · exact .inr fun h4 => h2 ⟨h3, h4⟩
          · exact .inl h3
        rw [this]; rfl
  · rw [Nat.min_eq_right (by omega), Nat.one_shiftLeft]
    have hl := lt_pow_log2 n
    have e4 : 2 ^ (n.log2 + 2) = 2 * 2 ^ (n.log2 + 1) := by rw [Nat.pow_succ, Nat.mul_comm]
    have hg : 2 ^ (n.log2 + 2) < 2 ^ d := Nat.pow_lt_pow_right (by decide) (by omega)
    have a1 : n / 2 ^ (n.log2 + 2) = 0 := Nat.div_eq_of_lt (by omega)
    have a2 : n % 2 ^ (n.log2 + 2) = n := Nat.mod_eq_of_lt (by omega)
    have a3 : n / 2 ^ d = 0 := Nat.div_eq_of_lt (by omega)
    have a4 : n % 2 ^ d = n := Nat.mod_eq_of_lt (by omega)
    rw [a1, a2, a3, a4, if_neg (by omega), decide_eq_false (by omega), show (2 ^ (n.log2 + 2) == 2 * n) = false from beq_eq_false_iff_ne.2 (by omega)]
    rfl

theorem cut_mono (s : Bool) {n m : Nat} (h : n ≤ m) (d : Nat) : Toward.even.cut s n d ≤ Toward.even.cut s m d := by
  rw [cut_even, cut_even]
  have hq : n / 2 ^ d ≤ m / 2 ^ d := Nat.div_le_div_right h
  by_cases hlt : n / 2 ^ d < m / 2 ^ d
  · split <;> split <;> omega
  · have he : n / 2 ^ d = m / 2 ^ d := by omega
    have d1 := Nat.div_add_mod n (2 ^ d)
    have d2 := Nat.div_add_mod m (2 ^ d)
    rw [he] at d1 ⊢
    generalize n % 2 ^ d = r1 at *
    generalize m % 2 ^ d = r2 at *
    have hr : r1 ≤ r2 := by omega
    by_cases h1 : 2 ^ d < 2 * r1 ∨ (2 ^ d = 2 * r1 ∧ m / 2 ^ d % 2 = 1)
    · have h2 : 2 ^ d < 2 * r2 ∨ (2 ^ d = 2 * r2 ∧ m / 2 ^ d % 2 = 1) := by
        rcases h1 with h1 | ⟨h1, h3⟩
        · exact .inl (by omega)
        · by_cases h4 : r1 = r2
          · subst h4; exact .inr ⟨h1, h3⟩
          · exact .inl (by omega)
      rw [if_pos h1, if_pos h2]
      exact Nat.le_refl _
    · rw [if_neg h1]
      omega

theorem log2_mono {n m : Nat} (hn : n ≠ 0) (h : n ≤ m) : n.log2 ≤ m.log2 :=
  (Nat.le_log2 (by omega)).2 (Nat.le_trans (pow_log2_le hn) h)

theorem nearest_mono (f : Format) (s : Bool) {m n : Nat} (hm : m ≠ 0) (h : m ≤ n) (p : Int) : ∃ r1 r2, f.nearest s m p = f.word s r1 ∧ f.nearest s n p = f.word s r2 ∧ r1 ≤ r2 ∧ r2 ≤ f.infRung := by
  have hn : n ≠ 0 := by omega
  unfold Format.nearest
  rw [if_neg hm, if_neg hn]
  refine ⟨_, _, rfl, rfl, ?_, Nat.min_le_right _ _⟩
  have hl := log2_mono hm h
  have key : (max (p + (m.log2 : Int) - f.fractionBits) f.leastPlace - f.leastPlace).toNat * f.binade + Toward.even.cut s (m <<< (p - max (p + (m.log2 : Int) - f.fractionBits) f.leastPlace).toNat) (max (p + (m.log2 : Int) - f.fractionBits) f.leastPlace - p).toNat ≤ (max (p + (n.log2 : Int) - f.fractionBits) f.leastPlace - f.leastPlace).toNat * f.binade + Toward.even.cut s (n <<< (p - max (p + (n.log2 : Int) - f.fractionBits) f.leastPlace).toNat) (max (p + (n.log2 : Int) - f.fractionBits) f.leastPlace - p).toNat := by
    by_cases he : max (p + (m.log2 : Int) - f.fractionBits) f.leastPlace = max (p + (n.log2 : Int) - f.fractionBits) f.leastPlace
    · rw [he]
      refine Nat.add_le_add_left (cut_mono s ?_ _) _
      rw [Nat.shiftLeft_eq, Nat.shiftLeft_eq]
      exact Nat.mul_le_mul_right _ h
    · have k1 : Toward.even.cut s (m <<< (p - max (p + (m.log2 : Int) - f.fractionBits) f.leastPlace).toNat) (max (p + (m.log2 : Int) - f.fractionBits) f.leastPlace - p).toNat ≤ 2 ^ (f.fractionBits + 1) := by
        apply cut_le_pow
        rw [Nat.shiftLeft_eq]
        refine Nat.lt_of_lt_of_le (Nat.mul_lt_mul_of_pos_right (lt_pow_log2 m) (Nat.two_pow_pos _)) ?_
        rw [← Nat.pow_add]
        apply Nat.pow_le_pow_right (by decide)
        omega
      have k2 : 2 ^ f.fractionBits ≤ Toward.even.cut s (n <<< (p - max (p + (n.log2 : Int) - f.fractionBits) f.leastPlace).toNat) (max (p + (n.log2 : Int) - f.fractionBits) f.leastPlace - p).toNat := by
        apply cut_ge_pow
        rw [Nat.shiftLeft_eq]
        refine Nat.le_trans ?_ (Nat.mul_le_mul_right _ (pow_log2_le hn))
        rw [← Nat.pow_add]
        apply Nat.pow_le_pow_right (by decide)
        omega
      have k3 : (max (p + (m.log2 : Int) - f.fractionBits) f.leastPlace - f.leastPlace).toNat + 1 ≤ (max (p + (n.log2 : Int) - f.fractionBits) f.leastPlace - f.leastPlace).toNat := by omega
      have e1 : (2 : Nat) ^ (f.fractionBits + 1) = 2 * f.binade := by rw [Nat.pow_succ, Nat.mul_comm]; rfl
      have e2 : (2 : Nat) ^ f.fractionBits = f.binade := rfl
      rw [e1] at k1
      rw [e2] at k2
      have := Nat.mul_le_mul_right f.binade k3
      rw [Nat.add_mul, Nat.one_mul] at this
      omega
  omega

/-- what a rung is worth, in units of the least place -/
def rungV (f : Format) (r : Nat) : Nat := if r < f.binade then r else (f.binade + r % f.binade) * 2 ^ (r / f.binade - 1)

theorem rungV_mono (f : Format) {a b : Nat} (h : a ≤ b) : rungV f a ≤ rungV f b := by
  have hb : 0 < f.binade := by unfold Format.binade; exact Nat.two_pow_pos _
  have big : ∀ r, f.binade ≤ r → f.binade * 2 ^ (r / f.binade - 1) ≤ rungV f r ∧ rungV f r ≤ f.binade * 2 ^ (r / f.binade) := by
    intro r hr
    unfold rungV
    rw [if_neg (by omega)]
    have hq : 1 ≤ r / f.binade := (Nat.le_div_iff_mul_le hb).2 (by omega)
    have ht := Nat.mod_lt r hb
    refine ⟨Nat.mul_le_mul_right _ (by omega), ?_⟩
    rw [show r / f.binade = (r / f.binade - 1) + 1 by omega, Nat.pow_succ, Nat.mul_comm (2 ^ _) 2, ← Nat.mul_assoc]
    exact Nat.mul_le_mul_right _ (by omega)
  by_cases h1 : b < f.binade
  · unfold rungV
    rw [if_pos h1, if_pos (by omega)]; exact h
  · by_cases h2 : a < f.binade
    · have := (big b (by omega)).1
      refine Nat.le_trans ?_ this
      unfold rungV
      rw [if_pos h2]
      refine Nat.le_trans (Nat.le_of_lt h2) ?_
      exact Nat.le_mul_of_pos_right _ (Nat.two_pow_pos _)
    · have hq : a / f.binade ≤ b / f.binade := Nat.div_le_div_right h
      by_cases he : a / f.binade = b / f.binade
      · unfold rungV
        rw [if_neg h2, if_neg h1, he]
        have d1 := Nat.div_add_mod a f.binade
        have d2 := Nat.div_add_mod b f.binade
        rw [he] at d1
        exact Nat.mul_le_mul_right _ (by omega)
      · refine Nat.le_trans (big a (by omega)).2 (Nat.le_trans ?_ (big b (by omega)).1)
        exact Nat.mul_le_mul_left _ (Nat.pow_le_pow_right (by decide) (by omega))

theorem read_rung (f : Format) (s : Bool) {r : Nat} (h : r < f.infRung) : ∃ k p, f.read (f.word s r) = .number s k p ∧ f.leastPlace ≤ p ∧ k * 2 ^ (p - f.leastPlace).toNat = rungV f r := by
  rw [read_word f s (Nat.lt_of_lt_of_le h (Nat.le_of_lt f.infRung_lt))]
  unfold rungV
  by_cases h1 : r < f.binade
  · rw [if_pos h1, if_pos h1]
    exact ⟨_, _, rfl, Int.le_refl _, by simp⟩
  · rw [if_neg h1, if_pos h, if_neg h1]
    refine ⟨_, _, rfl, by omega, ?_⟩
    congr 2
    omega

theorem read_inf (f : Format) (s : Bool) (hb : f.binade ≤ f.infRung) : f.read (f.word s f.infRung) = .infinity s := by
  rw [read_word f s f.infRung_lt, if_neg (by omega), if_neg (by omega), if_pos rfl]

/-- what is nearest to less is not more -/
theorem nearest_le (f : Format) (hb : f.binade ≤ f.infRung) (s : Bool) {m n : Nat} (hm : m ≠ 0) (h : m ≤ n) (p : Int) {k2 : Nat} {p2 : Int} (hn : f.read (f.nearest s n p) = .number s k2 p2) :
    ∃ k1 p1, f.read (f.nearest s m p) = .number s k1 p1 ∧ f.leastPlace ≤ p1 ∧ f.leastPlace ≤ p2 ∧ k1 * 2 ^ (p1 - f.leastPlace).toNat ≤ k2 * 2 ^ (p2 - f.leastPlace).toNat := by
  obtain ⟨r1, r2, e1, e2, h1, h2⟩ := nearest_mono f s hm h p
  rw [e2] at hn
  have h3 : r2 < f.infRung := by
    refine Classical.byContradiction fun hh => ?_
    have : r2 = f.infRung := by omega
    subst this
    rw [read_inf f s hb] at hn
    cases hn
  obtain ⟨k, q, a1, a2, a3⟩ := read_rung f s h3
  obtain ⟨k', q', b1, b2, b3⟩ := read_rung f s (Nat.lt_of_le_of_lt h1 h3)
  rw [hn] at a1
  cases a1
  exact ⟨k', q', by rw [e1]; exact b1, b2, a2, by rw [b3, a3]; exact rungV_mono f h1⟩

theorem read_place (f : Format) {b : Nat} {s : Bool} {m : Nat} {p : Int} (h : f.read b = .number s m p) : f.leastPlace ≤ p := by
  unfold Format.read at h
  simp only at h
  split at h
  · cases h; exact Int.le_refl _
  · split at h
    · cases h; omega
    · split at h <;> cases h

/-- at most so many times a power of two -/
def LcD (c : Nat) (q : Int) : Datum → Prop
  | .number _ m p => -1074 ≤ p ∧ m * 2 ^ (p + 1074).toNat ≤ c * 2 ^ (q + 1074).toNat
  | _ => False
def Lc (c : Nat) (q : Int) (x : Option Nat) : Prop := ∀ b, x = some b → LcD c q (double.read b)

theorem write_lc {c : Nat} {q : Int} {s : Bool} {m : Nat} {p : Int} (h : LcD c q (.number s m p)) (hc : 1 ≤ c) (hc2 : c < 2 ^ 53) (h1 : -1074 ≤ q) (h2 : q ≤ 900) : LcD c q (double.read (double.write (.number s m p))) := by
  obtain ⟨hp, hv⟩ := h
  by_cases hm : m = 0
  · subst hm
    rw [read_write_zero]
    exact ⟨by omega, by simp⟩
  · obtain ⟨r1, r2⟩ := read_exact s (m := c) (p := q) (by omega) hc2 h1 h2
    have e1 : double.nearest s m p = double.nearest s (m * 2 ^ (p + 1074).toNat) (-1074) := by
      have := nearest_mul double s m (p + 1074).toNat p
      rw [← this]
      congr 1
      omega
    have e2 : double.nearest s c q = double.nearest s (c * 2 ^ (q + 1074).toNat) (-1074) := by
      have := nearest_mul double s c (q + 1074).toNat q
      rw [← this]
      congr 1
      omega
    rw [e2] at r1
    have hmz : m * 2 ^ (p + 1074).toNat ≠ 0 := Nat.mul_ne_zero hm (by have := Nat.two_pow_pos (p + 1074).toNat; omega)
    obtain ⟨k1, p1, a1, a2, a3, a4⟩ := nearest_le double (by decide) s hmz hv (-1074) r1
    show LcD c q (double.read (double.nearest s m p))
    rw [e1, a1]
    have hL : double.leastPlace = -1074 := by decide
    rw [hL] at a2 a3 a4
    refine ⟨a2, ?_⟩
    have e3 : (p1 - -1074).toNat = (p1 + 1074).toNat := by omega
    rw [e3] at a4
    refine Nat.le_trans a4 (Nat.le_of_eq ?_)
    rw [Nat.shiftLeft_eq, Nat.mul_assoc, ← Nat.pow_add]
    congr 2
    omega

theorem LcD.mono {c d : Nat} {q : Int} {x : Datum} (h : LcD c q x) (hcd : c ≤ d) : LcD d q x := by
  cases x with
  | number s m p => exact ⟨h.1, Nat.le_trans h.2 (Nat.mul_le_mul_right _ hcd)⟩
  | infinity _ => exact h
  | nan _ _ => exact h

theorem sum_lc {c d : Nat} {q : Int} {x y z : Datum} (hx : LcD c q x) (hy : LcD d q y) (h : x.sum y = some z) : LcD (c + d) q z := by
  cases x with
  | infinity _ => exact absurd hx (by intro h; exact h)
  | nan _ _ => exact absurd hx (by intro h; exact h)
  | number s m p =>
    cases y with
    | infinity _ => exact absurd hy (by intro h; exact h)
    | nan _ _ => exact absurd hy (by intro h; exact h)
    | number t n k =>
      obtain ⟨hx1, hx2⟩ := hx
      obtain ⟨hy1, hy2⟩ := hy
      unfold Datum.sum at h
      dsimp only at h
      have hz := Option.some.inj h
      rw [← hz]
      have hmag : (signed s m (p - min p k).toNat + signed t n (k - min p k).toNat).natAbs ≤ m * 2 ^ (p - min p k).toNat + n * 2 ^ (k - min p k).toNat := by
        have := Int.natAbs_add_le (signed s m (p - min p k).toNat) (signed t n (k - min p k).toNat)
        rw [natAbs_signed, natAbs_signed] at this
        exact this
      refine ⟨by omega, ?_⟩
      calc (signed s m (p - min p k).toNat + signed t n (k - min p k).toNat).natAbs * 2 ^ (min p k + 1074).toNat ≤ (m * 2 ^ (p - min p k).toNat + n * 2 ^ (k - min p k).toNat) * 2 ^ (min p k + 1074).toNat := Nat.mul_le_mul_right _ hmag
        _ = m * 2 ^ (p + 1074).toNat + n * 2 ^ (k + 1074).toNat := by
          rw [Nat.add_mul, Nat.mul_assoc, Nat.mul_assoc, ← Nat.pow_add, ← Nat.pow_add]
          congr 3 <;> omega
        _ ≤ c * 2 ^ (q + 1074).toNat + d * 2 ^ (q + 1074).toNat := Nat.add_le_add hx2 hy2
        _ = _ := by rw [Nat.add_mul]

theorem Lc.add {c d : Nat} {q : Int} {x y : Option Nat} (hx : Lc c q x) (hy : Lc d q y) (hc : 1 ≤ c + d) (hc2 : c + d < 2 ^ 53) (h1 : -1074 ≤ q) (h2 : q ≤ 900) : Lc (c + d) q (fop .add .f64 x y) := by
  intro b hb
  obtain ⟨a, a', rfl, rfl, hf⟩ := fop_some hb
  obtain ⟨z, hz, rfl⟩ := Option.map_eq_some_iff.1 (show ((double.read a).sum (double.read a')).map double.write = some b from hf)
  have := sum_lc (hx a rfl) (hy a' rfl) hz
  cases z with
  | number s m p => exact write_lc this hc hc2 h1 h2
  | infinity _ => exact absurd this (by intro h; exact h)
  | nan _ _ => exact absurd this (by intro h; exact h)

theorem Le.lc {e : Int} {x : Option Nat} (h : Le e x) : Lc 1 e x := by
  intro b hb
  have hl := h b hb
  cases hr : double.read b with
  | number s m p =>
    rw [hr] at hl
    have hp := read_place double hr
    have hL : double.leastPlace = -1074 := by decide
    rw [hL] at hp
    refine ⟨hp, ?_⟩
    rcases hl with hl | ⟨hl1, hl2⟩
    · rw [hl, Nat.zero_mul]; exact Nat.zero_le _
    · rw [Nat.one_mul]
      calc m * 2 ^ (p + 1074).toNat ≤ 2 ^ (e - p).toNat * 2 ^ (p + 1074).toNat := Nat.mul_le_mul_right _ hl2
        _ = 2 ^ (e + 1074).toNat := by rw [← Nat.pow_add]; congr 1; omega
  | infinity s => rw [hr] at hl; exact hl
  | nan s t => rw [hr] at hl; exact hl

theorem Lc.le {c k : Nat} {q : Int} {x : Option Nat} (h : Lc c q x) (hc : c ≤ 2 ^ k) (hq : -1074 ≤ q) : Le (q + k) x := by
  intro b hb
  have hl := h b hb
  cases hr : double.read b with
  | number s m p =>
    rw [hr] at hl
    obtain ⟨hp, hv⟩ := hl
    by_cases hm : m = 0
    · exact .inl hm
    · refine .inr ?_
      have h1 : m * 2 ^ (p + 1074).toNat ≤ 2 ^ (q + k + 1074).toNat := by
        refine Nat.le_trans hv (Nat.le_trans (Nat.mul_le_mul_right _ hc) ?_)
        rw [← Nat.pow_add]
        exact Nat.pow_le_pow_right (by decide) (by omega)
      have h2 : (p + 1074).toNat ≤ (q + k + 1074).toNat := by
        refine Classical.byContradiction fun hh => ?_
        have : 2 ^ (q + k + 1074).toNat < 2 ^ (p + 1074).toNat := Nat.pow_lt_pow_right (by decide) (by omega)
        have := Nat.le_mul_of_pos_left (2 ^ (p + 1074).toNat) (show 0 < m by omega)
        omega
      refine ⟨by omega, ?_⟩
      have h3 : 2 ^ (q + k + 1074).toNat = 2 ^ (q + k - p).toNat * 2 ^ (p + 1074).toNat := by rw [← Nat.pow_add]; congr 1; omega
      rw [h3] at h1
      exact Nat.le_of_mul_le_mul_right h1 (Nat.two_pow_pos _)
  | infinity s => rw [hr] at hl; exact hl
  | nan s t => rw [hr] at hl; exact hl
end Go.H
