/- The library: frames told in part, a judgement on code over them, floats. -/
import Derived.Test.YtmgoblppedmdhaaLibD
/- Bounds that are met: at most '2 ^ e'. -/
namespace Go.H
open Go Ieee

def LeD (e : Int) : Datum → Prop
  | .number _ m p => m = 0 ∨ (p ≤ e ∧ m ≤ 2 ^ (e - p).toNat)
  | _ => False
def Le (e : Int) (x : Option Nat) : Prop := ∀ b, x = some b → LeD e (double.read b)

instance decBd (e : Int) (d : Datum) : Decidable (BdD e d) := match d with
  | .number _ m p => inferInstanceAs (Decidable (m = 0 ∨ (m.log2 : Int) + p < e))
  | .infinity _ => isFalse id
  | .nan _ _ => isFalse id
instance decLo (e : Int) (d : Datum) : Decidable (LoD e d) := match d with
  | .number _ m p => inferInstanceAs (Decidable (m ≠ 0 ∧ e ≤ (m.log2 : Int) + p))
  | .infinity _ => isTrue trivial
  | .nan _ _ => isFalse id
instance decLe (e : Int) (d : Datum) : Decidable (LeD e d) := match d with
  | .number _ m p => inferInstanceAs (Decidable (m = 0 ∨ (p ≤ e ∧ m ≤ 2 ^ (e - p).toNat)))
  | .infinity _ => isFalse id
  | .nan _ _ => isFalse id

theorem le_none {e : Int} : Le e none := by intro b h; cases h
theorem LeD.mono {e e' : Int} {d : Datum} (h : LeD e d) (he : e ≤ e') : LeD e' d := by
  cases d with
  | number s m p => exact h.imp id (fun h => ⟨by omega, Nat.le_trans h.2 (Nat.pow_le_pow_right (by decide) (by omega))⟩)
  | infinity _ => exact h
  | nan _ _ => exact h
theorem Le.mono {e e' : Int} {x : Option Nat} (h : Le e x) (he : e ≤ e') : Le e' x := fun b hb => (h b hb).mono he
theorem LeD.bd {e : Int} {d : Datum} (h : LeD e d) : BdD (e + 1) d := by
  cases d with
  | number s m p =>
    by_cases h0 : m = 0
    · exact .inl h0
    · refine .inr ?_
      rcases h with h | ⟨h1, h2⟩
      · exact absurd h h0
      · have : m.log2 < (e - p).toNat + 1 := by
          rw [Nat.log2_lt h0, Nat.pow_succ]
          have := Nat.two_pow_pos (e - p).toNat
          omega
        omega
  | infinity _ => exact h
  | nan _ _ => exact h
theorem Le.bd {e : Int} {x : Option Nat} (h : Le e x) : Bd (e + 1) x := fun b hb => (h b hb).bd
theorem BdD.le {e : Int} {d : Datum} (h : BdD e d) : LeD e d := by
  cases d with
  | number s m p =>
    refine h.imp id fun h => ⟨by omega, ?_⟩
    refine Nat.le_trans (Nat.le_of_lt (lt_pow_log2 m)) (Nat.pow_le_pow_right (by decide) (by omega))
  | infinity _ => exact h
  | nan _ _ => exact h

theorem cut_le_pow' (neg : Bool) (n drop k : Nat) (h : n ≤ 2 ^ (k + drop)) : Toward.even.cut neg n drop ≤ 2 ^ k := by
  by_cases hlt : n < 2 ^ (k + drop)
  · exact cut_le_pow neg n drop k hlt
  · have hn : n = 2 ^ (k + drop) := by omega
    subst hn
    unfold Toward.cut
    dsimp only
    rw [Nat.log2_two_pow, Nat.one_shiftLeft, Nat.min_eq_left (by omega)]
    have e1 : 2 ^ (k + drop) / 2 ^ drop = 2 ^ k := by rw [Nat.pow_add, Nat.mul_div_cancel _ (Nat.two_pow_pos _)]
    have e2 : 2 ^ (k + drop) % 2 ^ drop = 0 := by rw [Nat.pow_add, Nat.mul_mod_left]
    rw [e1, e2]
    have hp := Nat.two_pow_pos drop
    have : (decide (2 ^ drop < 2 * 0) || (2 ^ drop == 2 * 0 && 2 ^ k % 2 == 1)) = false := by
      have a : decide (2 ^ drop < 2 * 0) = false := by simp
      have b : (2 ^ drop == 2 * 0) = false := by
        rw [beq_eq_false_iff_ne]; omega
      rw [a, b]; rfl
    rw [this]
    exact Nat.le_refl _

theorem nearest_top (f : Format) (neg : Bool) {m : Nat} (hm : m ≠ 0) (p e : Int) (h1 : p ≤ e) (h2 : m ≤ 2 ^ (e - p).toNat) (h3 : f.leastPlace + f.fractionBits ≤ e) :
    ∃ r, r ≤ (e + 1 - f.fractionBits - f.leastPlace).toNat * f.binade ∧ f.nearest neg m p = f.word neg (min r f.infRung) := by
  unfold Format.nearest
  rw [if_neg hm]
  refine ⟨_, ?_, rfl⟩
  by_cases hl : (m.log2 : Int) + p < e
  · have hk : Toward.even.cut neg (m <<< (p - max (p + m.log2 - f.fractionBits) f.leastPlace).toNat) (max (p + m.log2 - f.fractionBits) f.leastPlace - p).toNat ≤ 2 ^ (f.fractionBits + 1) := by
      apply cut_le_pow
      rw [Nat.shiftLeft_eq]
      refine Nat.lt_of_lt_of_le (Nat.mul_lt_mul_of_pos_right (lt_pow_log2 m) (Nat.two_pow_pos _)) ?_
      rw [← Nat.pow_add]
      apply Nat.pow_le_pow_right (by decide)
      omega
    have e1 : (2 : Nat) ^ (f.fractionBits + 1) = 2 * f.binade := by rw [Nat.pow_succ, Nat.mul_comm]; rfl
    by_cases hsub : p + m.log2 - f.fractionBits < f.leastPlace
    · -- below the normal ones
      have hk2 : Toward.even.cut neg (m <<< (p - max (p + m.log2 - f.fractionBits) f.leastPlace).toNat) (max (p + m.log2 - f.fractionBits) f.leastPlace - p).toNat ≤ 2 ^ f.fractionBits := by
        apply cut_le_pow
        rw [Nat.shiftLeft_eq]
        refine Nat.lt_of_lt_of_le (Nat.mul_lt_mul_of_pos_right (lt_pow_log2 m) (Nat.two_pow_pos _)) ?_
        rw [← Nat.pow_add]
        apply Nat.pow_le_pow_right (by decide)
        omega
      have e2 : (max (p + m.log2 - f.fractionBits) f.leastPlace - f.leastPlace).toNat = 0 := by omega
      rw [e2, Nat.zero_mul, Nat.zero_add]
      refine Nat.le_trans hk2 ?_
      exact Nat.le_mul_of_pos_left _ (by omega)
    · have e2 : (max (p + m.log2 - f.fractionBits) f.leastPlace - f.leastPlace).toNat + 2 ≤ (e + 1 - f.fractionBits - f.leastPlace).toNat := by omega
      refine Nat.le_trans (Nat.add_le_add_left hk _) ?_
      rw [e1, ← Nat.add_mul]
      exact Nat.mul_le_mul_right _ e2
  · have hlog : m.log2 = (e - p).toNat := by
      have hle : m.log2 < (e - p).toNat + 1 := by
        rw [Nat.log2_lt hm, Nat.pow_succ]
        have := Nat.two_pow_pos (e - p).toNat
        omega
      omega
    have hk : Toward.even.cut neg (m <<< (p - max (p + m.log2 - f.fractionBits) f.leastPlace).toNat) (max (p + m.log2 - f.fractionBits) f.leastPlace - p).toNat ≤ 2 ^ f.fractionBits := by
      apply cut_le_pow'
      rw [Nat.shiftLeft_eq]
      refine Nat.le_trans (Nat.mul_le_mul_right _ h2) ?_
      rw [← Nat.pow_add]
      apply Nat.pow_le_pow_right (by decide)
      omega
    have e2 : (max (p + m.log2 - f.fractionBits) f.leastPlace - f.leastPlace).toNat + 1 ≤ (e + 1 - f.fractionBits - f.leastPlace).toNat := by omega
    refine Nat.le_trans (Nat.add_le_add_left hk _) ?_
    have : f.binade = 2 ^ f.fractionBits := rfl
    rw [← this]
    calc _ = ((max (p + m.log2 - f.fractionBits) f.leastPlace - f.leastPlace).toNat + 1) * f.binade := by rw [Nat.add_mul, Nat.one_mul]
      _ ≤ _ := Nat.mul_le_mul_right _ e2

/-- a rung's bound -/
theorem rung_le (f : Format) (s : Bool) {r : Nat} {e : Int} (h : r ≤ (e + 1 - f.fractionBits - f.leastPlace).toNat * f.binade) (h3 : f.leastPlace + f.fractionBits ≤ e) (h2 : e + 1 - f.fractionBits - f.leastPlace ≤ ((2 ^ f.exponentBits : Nat) : Int) - 2) : LeD e (f.read (f.word s (min r f.infRung))) := by
  have hb : 0 < f.binade := by unfold Format.binade; exact Nat.two_pow_pos _
  have hinf : f.infRung = (2 ^ f.exponentBits - 1) * f.binade := rfl
  have hp2 : 0 < 2 ^ f.exponentBits := Nat.two_pow_pos _
  have hlt : (e + 1 - f.fractionBits - f.leastPlace).toNat * f.binade < f.infRung := by
    rw [hinf]
    apply Nat.mul_lt_mul_of_pos_right _ hb
    omega
  rw [Nat.min_eq_left (by omega)]
  have hbin : f.binade = 2 ^ f.fractionBits := rfl
  rw [read_word f s (Nat.lt_of_le_of_lt (Nat.le_of_lt (Nat.lt_of_le_of_lt h hlt)) f.infRung_lt)]
  by_cases h1 : r < f.binade
  · rw [if_pos h1]
    refine .inr ⟨by omega, ?_⟩
    refine Nat.le_trans (Nat.le_of_lt h1) ?_
    rw [hbin]
    exact Nat.pow_le_pow_right (by decide) (by omega)
  · rw [if_neg h1, if_pos (by omega)]
    refine .inr ?_
    have hq1 : 1 ≤ r / f.binade := (Nat.le_div_iff_mul_le hb).2 (by omega)
    have hmod := Nat.mod_lt r hb
    have hdm := Nat.div_add_mod r f.binade
    by_cases hq : r / f.binade < (e + 1 - f.fractionBits - f.leastPlace).toNat
    · refine ⟨by omega, ?_⟩
      have : f.binade + r % f.binade ≤ 2 ^ (f.fractionBits + 1) := by rw [Nat.pow_succ, ← hbin]; omega
      refine Nat.le_trans this (Nat.pow_le_pow_right (by decide) (by omega))
    · have hqe : r / f.binade = (e + 1 - f.fractionBits - f.leastPlace).toNat := by
        have : r / f.binade ≤ (e + 1 - f.fractionBits - f.leastPlace).toNat := by
          apply Nat.div_le_of_le_mul; rw [Nat.mul_comm]; exact h
        omega
      have hr0 : r % f.binade = 0 := by
        rw [hqe] at hdm
        rw [Nat.mul_comm] at hdm
        omega
      rw [hqe, hr0]
      refine ⟨by omega, ?_⟩
      rw [Nat.add_zero, hbin]
      exact Nat.pow_le_pow_right (by decide) (by omega)

theorem write_le {e : Int} {s : Bool} {m : Nat} {p : Int} (h : LeD e (.number s m p)) (h1 : -1022 ≤ e) (h2 : e ≤ 1023) : LeD e (double.read (double.write (.number s m p))) := by
  have a : double.leastPlace + double.fractionBits ≤ e := by show (-1074 : Int) + 52 ≤ e; omega
  have b : e + 1 - double.fractionBits - double.leastPlace ≤ ((2 ^ double.exponentBits : Nat) : Int) - 2 := by show e + 1 - 52 - (-1074) ≤ ((2 ^ 11 : Nat) : Int) - 2; omega
  by_cases hm : m = 0
  · subst hm
    rw [read_write_zero]
    exact .inl rfl
  · rcases h with h | ⟨h3, h4⟩
    · exact absurd h hm
    · obtain ⟨r, hr, hw⟩ := nearest_top double s hm p e h3 h4 a
      show LeD e (double.read (double.nearest s m p))
      rw [hw]
      exact rung_le double s hr a b

theorem le_map {e : Int} {d : Option Datum} (h : ∀ y, d = some y → LeD e y) (h1 : -1022 ≤ e) (h2 : e ≤ 1023) : Le e (d.map double.write) := by
  intro b hb
  obtain ⟨y, hy, rfl⟩ := Option.map_eq_some_iff.1 hb
  have := h y hy
  cases y with
  | number s m p => exact write_le this h1 h2
  | infinity _ => exact absurd this (by intro h; exact h)
  | nan _ _ => exact absurd this (by intro h; exact h)

theorem scaledLe {m : Nat} {p e base : Int} (h : m = 0 ∨ (p ≤ e ∧ m ≤ 2 ^ (e - p).toNat)) (hb : base ≤ p) : m * 2 ^ (p - base).toNat ≤ 2 ^ (e - base).toNat := by
  rcases h with h | ⟨h1, h2⟩
  · subst h; rw [Nat.zero_mul]; exact Nat.zero_le _
  · calc m * 2 ^ (p - base).toNat ≤ 2 ^ (e - p).toNat * 2 ^ (p - base).toNat := Nat.mul_le_mul_right _ h2
      _ = 2 ^ (e - base).toNat := by rw [← Nat.pow_add]; congr 1; omega

theorem sum_le {e : Int} {x y z : Datum} (hx : LeD e x) (hy : LeD e y) (h : x.sum y = some z) : LeD (e + 1) z ∧ (x.neg ≠ y.neg → LeD e z) := by
  cases x with
  | infinity _ => exact absurd hx (by intro h; exact h)
  | nan _ _ => exact absurd hx (by intro h; exact h)
  | number s m i =>
    cases y with
    | infinity _ => exact absurd hy (by intro h; exact h)
    | nan _ _ => exact absurd hy (by intro h; exact h)
    | number t n j =>
      simp only [Datum.sum, Option.some.injEq] at h
      subst h
      have h1 := scaledLe hx (Int.min_le_left i j)
      have h2 := scaledLe hy (Int.min_le_right i j)
      have base : ∀ T : Nat, T ≠ 0 → T ≤ m * 2 ^ (i - min i j).toNat + n * 2 ^ (j - min i j).toNat → min i j ≤ e := by
        intro T hT hT2
        rcases hx with hx | hx
        · rcases hy with hy | hy
          · subst hx; subst hy; simp at hT2; omega
          · omega
        · omega
      have hn : (signed s m (i - min i j).toNat + signed t n (j - min i j).toNat).natAbs ≤ m * 2 ^ (i - min i j).toNat + n * 2 ^ (j - min i j).toNat := by
        have := Int.natAbs_add_le (signed s m (i - min i j).toNat) (signed t n (j - min i j).toNat)
        rwa [natAbs_signed, natAbs_signed] at this
      constructor
      · by_cases h0 : (signed s m (i - min i j).toNat + signed t n (j - min i j).toNat).natAbs = 0
        · exact .inl h0
        · have hb := base _ h0 hn
          refine .inr ⟨by omega, ?_⟩
          rw [show (e + 1 - min i j).toNat = (e - min i j).toNat + 1 by omega, Nat.pow_succ]
          omega
      · intro hst
        have hst : s ≠ t := hst
        by_cases h0 : (signed s m (i - min i j).toNat + signed t n (j - min i j).toNat).natAbs = 0
        · exact .inl h0
        · have hb := base _ h0 hn
          refine .inr ⟨by omega, ?_⟩
          have e1 : ∀ (s : Bool) (m u : Nat), signed s m u = if s then -((m * 2 ^ u : Nat) : Int) else ((m * 2 ^ u : Nat) : Int) := by
            intro s m u; unfold signed; rw [Nat.shiftLeft_eq]
          rw [e1, e1]
          cases s <;> cases t
          · exact absurd rfl hst
          · simp only [Bool.false_eq_true, if_false, if_true]; omega
          · simp only [Bool.false_eq_true, if_false, if_true]; omega
          · exact absurd rfl hst

theorem opposite_le {e : Int} {x : Datum} (h : LeD e x) : LeD e x.opposite := by
  cases x <;> exact h

theorem Le.add {e : Int} {x y : Option Nat} (hx : Le e x) (hy : Le e y) (h1 : -1023 ≤ e) (h2 : e ≤ 1022) : Le (e + 1) (fop .add .f64 x y) := by
  cases x with
  | none => exact le_none
  | some a => cases y with
    | none => exact le_none
    | some b => exact le_map (d := (double.read a).sum (double.read b)) (fun z hz => (sum_le (hx a rfl) (hy b rfl) hz).1) (by omega) (by omega)
theorem Le.sub {e : Int} {x y : Option Nat} (hx : Le e x) (hy : Le e y) (h1 : -1023 ≤ e) (h2 : e ≤ 1022) : Le (e + 1) (fop .sub .f64 x y) := by
  cases x with
  | none => exact le_none
  | some a => cases y with
    | none => exact le_none
    | some b => exact le_map (d := (double.read a).sum (double.read b).opposite) (fun z hz => (sum_le (hx a rfl) (opposite_le (hy b rfl)) hz).1) (by omega) (by omega)

/-- the sign of a number -/
def Sg (s : Bool) (x : Option Nat) : Prop := ∀ b, x = some b → (double.read b).neg = s
theorem Le.addOpp {e : Int} {s : Bool} {x y : Option Nat} (hx : Le e x) (hy : Le e y) (sx : Sg s x) (sy : Sg (!s) y) (h1 : -1022 ≤ e) (h2 : e ≤ 1023) : Le e (fop .add .f64 x y) := by
  cases x with
  | none => exact le_none
  | some a => cases y with
    | none => exact le_none
    | some b => exact le_map (d := (double.read a).sum (double.read b)) (fun z hz => (sum_le (hx a rfl) (hy b rfl) hz).2 (by rw [sx a rfl, sy b rfl]; cases s <;> decide)) h1 h2
theorem Le.subSame {e : Int} {s : Bool} {x y : Option Nat} (hx : Le e x) (hy : Le e y) (sx : Sg s x) (sy : Sg s y) (h1 : -1022 ≤ e) (h2 : e ≤ 1023) : Le e (fop .sub .f64 x y) := by
  cases x with
  | none => exact le_none
  | some a => cases y with
    | none => exact le_none
    | some b =>
      refine le_map (d := (double.read a).sum (double.read b).opposite) (fun z hz => (sum_le (hx a rfl) (opposite_le (hy b rfl)) hz).2 ?_) h1 h2
      have h1 := sx a rfl
      have h2 := sy b rfl
      rw [h1]
      have h3 := hy b rfl
      revert h2 h3
      cases double.read b with
      | number t n j => intro h2 _; show s ≠ !t; have : t = s := h2; rw [this]; cases s <;> decide
      | infinity _ => intro _ h; exact absurd h (by intro h; exact h)
      | nan _ _ => intro _ h; exact absurd h (by intro h; exact h)

theorem product_le {d e : Int} {x y z : Datum} (hx : LeD d x) (hy : LeD e y) (h : x.product y = some z) : LeD (d + e) z := by
  cases x with
  | infinity _ => exact absurd hx (by intro h; exact h)
  | nan _ _ => exact absurd hx (by intro h; exact h)
  | number s m i =>
    cases y with
    | infinity _ => exact absurd hy (by intro h; exact h)
    | nan _ _ => exact absurd hy (by intro h; exact h)
    | number t n j =>
      simp only [Datum.product, Option.some.injEq] at h
      subst h
      rcases hx with hx | ⟨h1, h2⟩
      · exact .inl (by rw [hx, Nat.zero_mul])
      · rcases hy with hy | ⟨h3, h4⟩
        · exact .inl (by rw [hy, Nat.mul_zero])
        · refine .inr ⟨by omega, ?_⟩
          calc m * n ≤ 2 ^ (d - i).toNat * 2 ^ (e - j).toNat := Nat.mul_le_mul h2 h4
            _ = _ := by rw [← Nat.pow_add]; congr 1; omega

theorem Le.mul {d e : Int} {x y : Option Nat} (hx : Le d x) (hy : Le e y) (h1 : -1022 ≤ d + e) (h2 : d + e ≤ 1023) : Le (d + e) (fop .mul .f64 x y) := by
  cases x with
  | none => exact le_none
  | some a => cases y with
    | none => exact le_none
    | some b => exact le_map (d := (double.read a).product (double.read b)) (fun z hz => product_le (hx a rfl) (hy b rfl) hz) h1 h2

theorem quotient_le {d e : Int} {digits : Nat} {x y z : Datum} (hx : LeD d x) (hy : LoD e y) (h : x.quotient digits y = some z) : LeD (d - e) z := by
  cases x with
  | infinity _ => exact absurd hx (by intro h; exact h)
  | nan _ _ => exact absurd hx (by intro h; exact h)
  | number s m i =>
    cases y with
    | infinity _ =>
      simp only [Datum.quotient, Option.some.injEq] at h
      subst h
      exact .inl rfl
    | nan _ _ => exact absurd hy (by intro h; exact h)
    | number t n j =>
      obtain ⟨hn, hy⟩ := hy
      simp only [Datum.quotient, if_neg hn, Option.some.injEq] at h
      subst h
      by_cases hm : m = 0
      · refine .inl ?_
        subst hm
        simp
      · rcases hx with hx | ⟨hx1, hx2⟩
        · exact absurd hx hm
        · generalize hk : digits + n.log2 - m.log2 = k
          -- m * 2^k ≤ T * n, T = 2^(d - e - i + j + k)
          have hlm : m.log2 ≤ (d - i).toNat := by
            have := Nat.log2_lt hm (k := (d - i).toNat + 1)
            have h3 : m < 2 ^ ((d - i).toNat + 1) := by
              rw [Nat.pow_succ]
              have := Nat.two_pow_pos (d - i).toNat
              omega
            have := this.2 h3
            omega
          by_cases hneg : (d - i) + k < n.log2
          · -- the quotient is less than one: below any place
            have hq : (m <<< k) / n = 0 := by
              apply Nat.div_eq_of_lt
              rw [Nat.shiftLeft_eq]
              calc m * 2 ^ k ≤ 2 ^ (d - i).toNat * 2 ^ k := Nat.mul_le_mul_right _ hx2
                _ = 2 ^ ((d - i).toNat + k) := (Nat.pow_add ..).symm
                _ < 2 ^ n.log2 := Nat.pow_lt_pow_right (by decide) (by omega)
                _ ≤ n := pow_log2_le hn
            omega
          · have hT : m <<< k ≤ 2 ^ ((d - i).toNat + k - n.log2) * n := by
              rw [Nat.shiftLeft_eq]
              calc m * 2 ^ k ≤ 2 ^ (d - i).toNat * 2 ^ k := Nat.mul_le_mul_right _ hx2
                _ = 2 ^ ((d - i).toNat + k - n.log2) * 2 ^ n.log2 := by rw [← Nat.pow_add, ← Nat.pow_add]; congr 1; omega
                _ ≤ _ := Nat.mul_le_mul_left _ (pow_log2_le hn)
            have hbt : ∀ b : Bool, b.toNat ≤ 1 := by decide
            have hmag : 2 * ((m <<< k) / n) + ((m <<< k) % n != 0).toNat ≤ 2 * 2 ^ ((d - i).toNat + k - n.log2) := by
              generalize hA : m <<< k = A at *
              have hdm := Nat.div_add_mod A n
              by_cases hlt : A / n < 2 ^ ((d - i).toNat + k - n.log2)
              · have := hbt (A % n != 0)
                omega
              · have h4 : A / n ≤ 2 ^ ((d - i).toNat + k - n.log2) := by
                  apply Nat.div_le_of_le_mul; rw [Nat.mul_comm]; exact hT
                have h5 : A / n = 2 ^ ((d - i).toNat + k - n.log2) := by omega
                have h6 : A % n = 0 := by
                  rw [h5, Nat.mul_comm] at hdm
                  omega
                rw [h5, h6]
                exact Nat.le_refl _
            by_cases h0 : 2 * ((m <<< k) / n) + ((m <<< k) % n != 0).toNat = 0
            · exact .inl h0
            · refine .inr ⟨by omega, Nat.le_trans hmag ?_⟩
              rw [show 2 * 2 ^ ((d - i).toNat + k - n.log2) = 2 ^ ((d - i).toNat + k - n.log2 + 1) by rw [Nat.pow_succ, Nat.mul_comm]]
              exact Nat.pow_le_pow_right (by decide) (by omega)

theorem Le.quo {d e : Int} {x y : Option Nat} (hx : Le d x) (hy : Lo e y) (h1 : -1022 ≤ d - e) (h2 : d - e ≤ 1023) : Le (d - e) (fop .quo .f64 x y) := by
  cases x with
  | none => exact le_none
  | some a => cases y with
    | none => exact le_none
    | some b => exact le_map (d := (double.read a).quotient 54 (double.read b)) (fun z hz => quotient_le (hx a rfl) (hy b rfl) hz) h1 h2

theorem Le.fcv {e : Int} {x : Option Nat} (h : Le e x) (he : e ≤ 126) : ∃ y, Go.H.fcv .f64 .f32 x = some y := Bd.fcv (h.bd.mono (by omega))
theorem le_const (e : Int) (b : Nat) (h : LeD e (double.read b)) : Le e (some b) := by
  intro c hc; cases hc; exact h
theorem bd_const (e : Int) (b : Nat) (h : BdD e (double.read b)) : Bd e (some b) := by
  intro c hc; cases hc; exact h
theorem lo_const (e : Int) (b : Nat) (h : LoD e (double.read b)) : Lo e (some b) := by
  intro c hc; cases hc; exact h
theorem sg_const (s : Bool) (b : Nat) (h : (double.read b).neg = s) : Sg s (some b) := by
  intro c hc; cases hc; exact h
theorem Le.neg {e : Int} {x : Option Nat} (h : Le e x) : Le e (fneg .f64 x) := by
  intro b hb
  unfold fneg at hb
  obtain ⟨a, rfl, rfl⟩ := Option.map_eq_some_iff.1 hb
  have := h a rfl
  have e1 : (Op.negFloat .f64 a) % 2 ^ 63 = a % 2 ^ 63 := by
    show (a ^^^ 2 ^ (11 + 52)) % 2 ^ 63 = _
    rw [Nat.xor_mod_two_pow, show 2 ^ (11 + 52) % 2 ^ 63 = 0 by decide, Nat.xor_zero]
  have key : ∀ b, LeD e (double.read (b % 2 ^ 63)) ↔ LeD e (double.read b) := by
    intro b
    rw [read_abs]
    cases double.read b <;> exact Iff.rfl
  rw [← key, e1, key]
  exact this
end Go.H

/- Whole numbers and what is left over. -/
set_option linter.unusedVariables false
namespace Go.H
open Go Ieee

/-- a magnitude that the format has is written as it stands -/
theorem read_exact (s : Bool) {m : Nat} {p : Int} (hm : m ≠ 0) (h1 : m < 2 ^ 53) (h2 : -1074 ≤ p) (h3 : p ≤ 900) : double.read (double.nearest s m p) = .number s (m <<< (p - max (p + m.log2 - 52) (-1074)).toNat) (max (p + m.log2 - 52) (-1074)) ∧ max (p + m.log2 - 52) (-1074) ≤ p := by
  have hlog : m.log2 < 53 := (Nat.log2_lt hm).2 h1
  have hlast : max (p + m.log2 - 52) (-1074) ≤ p := by omega
  refine ⟨?_, hlast⟩
  have hL : double.leastPlace = -1074 := by decide
  have hF : double.fractionBits = 52 := by decide
  have hB : double.binade = 4503599627370496 := by decide
  have hI : double.infRung = 9218868437227405312 := by decide
  have hS : double.signWeight = 9223372036854775808 := by decide
  unfold Format.nearest
  rw [if_neg hm]
  dsimp only
  rw [hL, hF]
  have e0 : (max (p + (m.log2 : Int) - ((52 : Nat) : Int)) (-1074) - p).toNat = 0 := by omega
  have hcut : ∀ n, Toward.even.cut s n 0 = n := by
    intro n
    unfold Toward.cut
    dsimp only
    have h1 : (1 : Nat) <<< min 0 (n.log2 + 2) = 1 := by simp
    rw [h1, Nat.div_one, Nat.mod_one]
    have : (decide (1 < 2 * 0) || (1 == 2 * 0 && n % 2 == 1)) = false := by
      have a : decide (1 < 2 * 0) = false := by decide
      have b : (1 == 2 * 0) = false := by decide
      rw [a, b]; rfl
    rw [this]; rfl
  rw [e0, hcut]
  have ecast : ((52 : Nat) : Int) = 52 := rfl
  rw [ecast]
  generalize hlast' : max (p + (m.log2 : Int) - 52) (-1074) = last at *
  have hkept : m <<< (p - last).toNat < 2 ^ 53 := by
    rw [Nat.shiftLeft_eq]
    calc m * 2 ^ (p - last).toNat < 2 ^ (m.log2 + 1) * 2 ^ (p - last).toNat := Nat.mul_lt_mul_of_pos_right (lt_pow_log2 m) (Nat.two_pow_pos _)
      _ = 2 ^ (m.log2 + 1 + (p - last).toNat) := (Nat.pow_add ..).symm
      _ ≤ 2 ^ 53 := Nat.pow_le_pow_right (by decide) (by omega)
  have hbig : last > -1074 → 2 ^ 52 ≤ m <<< (p - last).toNat := by
    intro hgt
    rw [Nat.shiftLeft_eq]
    calc 2 ^ 52 ≤ 2 ^ (m.log2 + (p - last).toNat) := Nat.pow_le_pow_right (by decide) (by omega)
      _ = 2 ^ m.log2 * 2 ^ (p - last).toNat := Nat.pow_add ..
      _ ≤ _ := Nat.mul_le_mul_right _ (pow_log2_le hm)
  generalize m <<< (p - last).toNat = K at *
  have hll : last ≤ 900 := by omega
  have hge : -1074 ≤ last := by omega
  rw [hB, hI]
  have e52 : (2 : Nat) ^ 52 = 4503599627370496 := by decide
  have e53 : (2 : Nat) ^ 53 = 9007199254740992 := by decide
  rw [e53] at hkept
  rw [e52] at hbig
  have hq : (last - -1074).toNat ≤ 1974 := by omega
  rw [Nat.min_eq_left (by omega)]
  rw [read_word double s (by rw [hS]; omega)]
  rw [hB, hI, hL]
  by_cases hz : last = -1074
  · subst hz
    have : (-1074 - -1074 : Int).toNat = 0 := by decide
    rw [this, Nat.zero_mul, Nat.zero_add]
    by_cases hlt : K < 4503599627370496
    · rw [if_pos hlt]
    · rw [if_neg hlt, if_pos (by omega)]
      have hmod : K % 4503599627370496 = K - 4503599627370496 := by omega
      have hdiv : K / 4503599627370496 = 1 := by omega
      rw [hmod, hdiv, Nat.add_sub_cancel' (by omega)]
      rfl
  · have hb := hbig (by omega)
    rw [if_neg (by omega), if_pos (by omega)]
    have hmod : ((last - -1074).toNat * 4503599627370496 + K) % 4503599627370496 = K - 4503599627370496 := by omega
    have hdiv : ((last - -1074).toNat * 4503599627370496 + K) / 4503599627370496 = (last - -1074).toNat + 1 := by omega
    rw [hmod, hdiv, Nat.add_sub_cancel' (by omega)]
    have e1 : -1074 + ((((last - -1074).toNat + 1 - 1 : Nat)) : Int) = last := by omega
    rw [e1]

theorem cut_whole (s : Bool) (n drop : Nat) : Toward.zero.cut s n drop = n / 2 ^ drop := by
  unfold Toward.cut
  dsimp only
  rw [Nat.one_shiftLeft]
  show n / 2 ^ min drop (n.log2 + 2) + Bool.toNat false = _
  by_cases h : drop ≤ n.log2 + 2
  · rw [Nat.min_eq_left h]; rfl
  · rw [Nat.min_eq_right (by omega)]
    have : ∀ k, n.log2 + 2 ≤ k → n / 2 ^ k = 0 := fun k hk => Nat.div_eq_of_lt (Nat.lt_trans (lt_pow_log2 n) (Nat.pow_lt_pow_right (by decide) (by omega)))
    rw [this _ (Nat.le_refl _), this _ (by omega)]; rfl

theorem cmp_geq (a b : Int) : (some (compare a b) == some Ordering.gt || some (compare a b) == some Ordering.eq) = decide (b ≤ a) := by
  rcases Int.lt_trichotomy a b with h | h | h
  · rw [Int.compare_eq_lt.2 h, decide_eq_false (by omega)]; rfl
  · subst h; rw [Int.compare_eq_eq.2 rfl, decide_eq_true (by omega)]; rfl
  · rw [Int.compare_eq_gt.2 h, decide_eq_true (by omega)]; rfl
theorem cmp_leq (a b : Int) : (some (compare a b) == some Ordering.lt || some (compare a b) == some Ordering.eq) = decide (a ≤ b) := by
  rcases Int.lt_trichotomy a b with h | h | h
  · rw [Int.compare_eq_lt.2 h, decide_eq_true (by omega)]; rfl
  · subst h; rw [Int.compare_eq_eq.2 rfl, decide_eq_true (by omega)]; rfl
  · rw [Int.compare_eq_gt.2 h, decide_eq_false (by omega)]; rfl
theorem cmp_gtr (a b : Int) : (some (compare a b) == some Ordering.gt) = decide (b < a) := by
  rcases Int.lt_trichotomy a b with h | h | h
  · rw [Int.compare_eq_lt.2 h, decide_eq_false (by omega)]; rfl
  · subst h; rw [Int.compare_eq_eq.2 rfl, decide_eq_false (by omega)]; rfl
  · rw [Int.compare_eq_gt.2 h, decide_eq_true (by omega)]; rfl
theorem cmp_lss (a b : Int) : (some (compare a b) == some Ordering.lt) = decide (a < b) := by
  rcases Int.lt_trichotomy a b with h | h | h
  · rw [Int.compare_eq_lt.2 h, decide_eq_true (by omega)]; rfl
  · subst h; rw [Int.compare_eq_eq.2 rfl, decide_eq_false (by omega)]; rfl
  · rw [Int.compare_eq_gt.2 h, decide_eq_false (by omega)]; rfl

theorem signed_eq (s : Bool) (m u : Nat) : signed s m u = if s then -((m * 2 ^ u : Nat) : Int) else ((m * 2 ^ u : Nat) : Int) := by
  unfold signed; rw [Nat.shiftLeft_eq]

/-- 'less than nought' tells the sign -/
theorem Sg.lss {x : Option Nat} (h : fcmp .lss .f64 x (some 0) = true) : Sg true x := by
  intro b hb
  subst hb
  have h : ((double.read b).order (double.read 0) == some .lt) = true := h
  have z : double.read 0 = .number false 0 (-1074) := by decide
  rw [z] at h
  revert h
  cases double.read b with
  | nan s t => intro h; cases h
  | infinity s => cases s <;> intro h <;> first | rfl | cases h
  | number s m i =>
    simp only [Datum.order, cmp_lss, signed_eq]
    cases s
    · intro h
      simp only [decide_eq_true_eq, Bool.false_eq_true, if_false] at h
      exfalso; omega
    · intro _; rfl

theorem Sg.geq {x : Option Nat} {c : Nat} (hc : ∃ m p, double.read c = .number false m p ∧ m ≠ 0) (h : fcmp .geq .f64 x (some c) = true) : Sg false x := by
  intro b hb
  subst hb
  obtain ⟨n, j, hc, hn⟩ := hc
  have h : ((double.read b).order (double.read c) == some .gt || (double.read b).order (double.read c) == some .eq) = true := h
  rw [hc] at h
  revert h
  cases double.read b with
  | nan s t => intro h; cases h
  | infinity s => cases s <;> intro h <;> first | rfl | cases h
  | number s m i =>
    simp only [Datum.order, cmp_geq, signed_eq]
    cases s
    · intro _; rfl
    · intro h
      simp only [decide_eq_true_eq, Bool.false_eq_true, if_false, if_true] at h
      have := Nat.mul_pos (Nat.pos_of_ne_zero hn) (Nat.two_pow_pos (j - min i j).toNat)
      exfalso; omega

theorem geq_of_gtr {x y : Option Nat} (h : fcmp .gtr .f64 x y = true) : fcmp .geq .f64 x y = true := by
  have h : (ford .f64 x y == some .gt) = true := h
  show (ford .f64 x y == some .gt || ford .f64 x y == some .eq) = true
  rw [h]; rfl

/-- 'at least', of the magnitude -/
theorem geq_abs {x : Option Nat} {c d : Nat} {n : Nat} {j : Int} (hn : n ≠ 0) (hc : double.read c = .number false n j) (hd : double.read d = .number true n j) (hx : Cl x) : fcmp .geq .f64 (fabs x) (some c) = (fcmp .geq .f64 x (some c) || fcmp .leq .f64 x (some d)) := by
  cases x with
  | none => rfl
  | some b =>
    have hb := hx b rfl
    show ((double.read (b % 2 ^ 63)).order (double.read c) == some .gt || (double.read (b % 2 ^ 63)).order (double.read c) == some .eq) = ((double.read b).order (double.read c) == some .gt || (double.read b).order (double.read c) == some .eq || ((double.read b).order (double.read d) == some .lt || (double.read b).order (double.read d) == some .eq))
    rw [read_abs, hc, hd]
    revert hb
    cases double.read b with
    | nan _ _ => intro h; cases h
    | infinity s => intro _; cases s <;> rfl
    | number s m i =>
      intro _
      simp only [Datum.order, cmp_geq, cmp_leq, signed_eq]
      have := Nat.mul_pos (Nat.pos_of_ne_zero hn) (Nat.two_pow_pos (j - min i j).toNat)
      generalize n * 2 ^ (j - min i j).toNat = N at *
      generalize m * 2 ^ (i - min i j).toNat = M at *
      cases s
      · simp only [Bool.false_eq_true, if_false, if_true]
        have : decide ((M : Int) ≤ -(N : Int)) = false := decide_eq_false (by omega)
        rw [this, Bool.or_false]
      · simp only [Bool.false_eq_true, if_false, if_true]
        have h1 : decide ((N : Int) ≤ -(M : Int)) = false := decide_eq_false (by omega)
        rw [h1, Bool.false_or, decide_eq_decide]
        omega

/-- a number of less than 2^52: its whole part, and that what is left over is at most one -/
theorem whole {x : Option Nat} (hf : fin .f64 x = true) (hc : fcmp .geq .f64 (fabs x) (some 4841369599423283200) = false) : ∃ n, ftoi .f64 .i64 x = some n ∧ Le 0 (fop .sub .f64 x (fofi .f64 n)) := by
  cases x with
  | none => cases hf
  | some b =>
    have hf : (match double.read b with | .number .. => true | _ => false) = true := hf
    have hc : ((double.read (b % 2 ^ 63)).order (double.read 4841369599423283200) == some .gt || (double.read (b % 2 ^ 63)).order (double.read 4841369599423283200) == some .eq) = false := hc
    have ec : double.read 4841369599423283200 = .number false 4503599627370496 0 := by decide
    rw [read_abs, ec] at hc
    cases hd : double.read b with
    | nan _ _ => rw [hd] at hf; cases hf
    | infinity _ => rw [hd] at hf; cases hf
    | number s m i =>
      rw [hd] at hc
      simp only [Datum.order, cmp_geq, signed_eq, Bool.false_eq_true, if_false] at hc
      have hc := of_decide_eq_false hc
      -- the whole part
      have hint : (FloatKind.f64.decode b).toInt .zero = some (signed s (m <<< i.toNat / 2 ^ (-i).toNat) 0) := by
        show (double.read b).toInt .zero = _
        rw [hd]
        unfold Datum.toInt Datum.integral
        simp only [cut_whole]
      generalize hN : m <<< i.toNat / 2 ^ (-i).toNat = N at *
      have e52 : (2 : Nat) ^ 52 = 4503599627370496 := by decide
      have hNlt : N < 2 ^ 52 := by
        rw [← hN, Nat.shiftLeft_eq]
        by_cases hi : 0 ≤ i
        · have e1 : (-i).toNat = 0 := by omega
          have e2 : min i 0 = 0 := by omega
          rw [e2, Int.sub_zero, Int.sub_zero] at hc
          have e3 : Int.toNat 0 = 0 := rfl
          rw [e3, Nat.pow_zero, Nat.mul_one] at hc
          rw [e1, Nat.pow_zero, Nat.div_one]
          omega
        · have e1 : i.toNat = 0 := by omega
          have e2 : min i 0 = i := by omega
          rw [e2, Int.sub_self] at hc
          have e3 : ((0 : Int) - i).toNat = (-i).toNat := by omega
          have e4 : Int.toNat 0 = 0 := rfl
          rw [e3, e4, Nat.pow_zero, Nat.mul_one] at hc
          rw [e1, Nat.pow_zero, Nat.mul_one]
          rw [Nat.div_lt_iff_lt_mul (Nat.two_pow_pos _), e52]
          omega
      have hsg : signed s N 0 = if s then -(N : Int) else (N : Int) := by
        rw [signed_eq, Nat.pow_zero, Nat.mul_one]
      have hft : ftoi .f64 .i64 (some b) = some (signed s N 0) := by
        show floatToIntVal .f64 b .i64 = _
        unfold floatToIntVal
        rw [hint]
        dsimp only
        rw [if_pos]
        rw [hsg]
        show (-9223372036854775808 : Int) ≤ _ ∧ _ ≤ (9223372036854775807 : Int)
        cases s
        · simp only [Bool.false_eq_true, if_false]; omega
        · simp only [if_true]; omega
      refine ⟨_, hft, ?_⟩
      -- what is left over
      refine le_map (d := (double.read b).sum (double.read (FloatKind.f64.nearest (signed s N 0))).opposite) (fun z hz => ?_) (by omega) (by omega)
      rw [hd] at hz
      have hnear : FloatKind.f64.nearest (signed s N 0) = double.nearest (decide (signed s N 0 < 0)) (signed s N 0).natAbs 0 := rfl
      have hab : (signed s N 0).natAbs = N := by rw [hsg]; cases s <;> simp
      rw [hnear, hab] at hz
      by_cases hN0 : N = 0
      · have hz0 : double.read (double.nearest (decide (signed s N 0 < 0)) N 0) = .number (decide (signed s N 0 < 0)) 0 (-1074) := by rw [hN0]; exact read_write_zero _ _
        rw [hz0] at hz
        simp only [Datum.opposite, Datum.sum, Option.some.injEq] at hz
        subst hz
        have hlt : m * 2 ^ i.toNat < 2 ^ (-i).toNat := by
          rw [hN0, Nat.shiftLeft_eq] at hN
          rcases Nat.div_eq_zero_iff.1 hN with h | h
          · have := Nat.two_pow_pos (-i).toNat; omega
          · exact h
        have hn : (signed s m (i - min i (-1074)).toNat + signed (!decide (signed s N 0 < 0)) 0 (-1074 - min i (-1074)).toNat).natAbs = m * 2 ^ (i - min i (-1074)).toNat := by
          have e0 : signed (!decide (signed s N 0 < 0)) 0 (-1074 - min i (-1074)).toNat = 0 := by
            rw [signed_eq, Nat.zero_mul]; split <;> simp
          rw [e0, Int.add_zero, natAbs_signed]
        refine .inr ⟨by omega, ?_⟩
        rw [hn]
        by_cases hi : 0 ≤ i
        · have e1 : (-i).toNat = 0 := by omega
          rw [e1, Nat.pow_zero] at hlt
          have hm0 : m = 0 := by
            have := Nat.two_pow_pos i.toNat
            rcases Nat.eq_zero_or_pos m with h | h
            · exact h
            · have := Nat.mul_pos h this; omega
          rw [hm0, Nat.zero_mul]; exact Nat.zero_le _
        · have e1 : i.toNat = 0 := by omega
          rw [e1, Nat.pow_zero, Nat.mul_one] at hlt
          calc m * 2 ^ (i - min i (-1074)).toNat ≤ 2 ^ (-i).toNat * 2 ^ (i - min i (-1074)).toNat := Nat.mul_le_mul_right _ (Nat.le_of_lt hlt)
            _ = 2 ^ (0 - min i (-1074)).toNat := by rw [← Nat.pow_add]; congr 1; omega
      · have hneg : decide (signed s N 0 < 0) = s := by
          rw [hsg]
          cases s
          · simp only [Bool.false_eq_true, if_false]; exact decide_eq_false (by omega)
          · simp only [if_true]; exact decide_eq_true (by omega)
        rw [hneg] at hz
        obtain ⟨hr, hle⟩ := read_exact s hN0 (by rw [show (2 : Nat) ^ 53 = 9007199254740992 by decide]; omega) (by decide : (-1074 : Int) ≤ 0) (by decide)
        rw [hr] at hz
        generalize max ((0 : Int) + N.log2 - 52) (-1074) = L at *
        simp only [Datum.opposite, Datum.sum, Option.some.injEq] at hz
        subst hz
        have hA : N <<< (0 - L).toNat * 2 ^ (L - min i L).toNat = N * 2 ^ (0 - min i L).toNat := by
          rw [Nat.shiftLeft_eq, Nat.mul_assoc, ← Nat.pow_add]
          congr 2; omega
        have hB : N * 2 ^ (-i).toNat ≤ m * 2 ^ i.toNat ∧ m * 2 ^ i.toNat < N * 2 ^ (-i).toNat + 2 ^ (-i).toNat := by
          rw [← hN, Nat.shiftLeft_eq]
          have h1 := Nat.div_mul_le_self (m * 2 ^ i.toNat) (2 ^ (-i).toNat)
          have h2 := Nat.lt_div_mul_add (a := m * 2 ^ i.toNat) (Nat.two_pow_pos (-i).toNat)
          exact ⟨h1, h2⟩
        -- both sides in the common place
        have hC : N * 2 ^ (0 - min i L).toNat ≤ m * 2 ^ (i - min i L).toNat ∧ m * 2 ^ (i - min i L).toNat ≤ N * 2 ^ (0 - min i L).toNat + 2 ^ (0 - min i L).toNat := by
          by_cases hi : 0 ≤ i
          · have e1 : (-i).toNat = 0 := by omega
            rw [e1, Nat.pow_zero, Nat.mul_one] at hB
            have hNe : N = m * 2 ^ i.toNat := by omega
            have : m * 2 ^ (i - min i L).toNat = N * 2 ^ (0 - min i L).toNat := by
              rw [hNe, Nat.mul_assoc, ← Nat.pow_add]; congr 2; omega
            rw [this]
            exact ⟨Nat.le_refl _, Nat.le_add_right _ _⟩
          · have e1 : i.toNat = 0 := by omega
            rw [e1, Nat.pow_zero, Nat.mul_one] at hB
            have e2 : (0 - min i L).toNat = (-i).toNat + (i - min i L).toNat := by omega
            rw [e2, Nat.pow_add]
            constructor
            · rw [← Nat.mul_assoc]; exact Nat.mul_le_mul_right _ hB.1
            · rw [← Nat.mul_assoc, ← Nat.add_mul]
              exact Nat.mul_le_mul_right _ (Nat.le_of_lt hB.2)
        refine .inr ⟨by omega, ?_⟩
        rw [signed_eq, signed_eq, hA]
        generalize m * 2 ^ (i - min i L).toNat = A at *
        generalize N * 2 ^ (0 - min i L).toNat = B at *
        generalize 2 ^ (0 - min i L).toNat = C at *
        cases s
        · simp only [Bool.not_false, Bool.false_eq_true, if_false, if_true]; omega
        · simp only [Bool.not_true, Bool.false_eq_true, if_false, if_true]; omega
end Go.H

/- Half of a number: a product and a quotient. -/
set_option linter.unusedVariables false
namespace Go.H
open Go Ieee

theorem log2_mul_pow {n : Nat} (hn : n ≠ 0) (k : Nat) : (n * 2 ^ k).log2 = n.log2 + k := by
  apply log2_of
  · rw [Nat.pow_add]; exact Nat.mul_le_mul_right _ (pow_log2_le hn)
  · rw [show n.log2 + k + 1 = (n.log2 + 1) + k by omega, Nat.pow_add]
    exact Nat.mul_lt_mul_of_pos_right (lt_pow_log2 n) (Nat.two_pow_pos _)

theorem cut_mul (neg : Bool) {n : Nat} (hn : n ≠ 0) (k d : Nat) : Toward.even.cut neg (n * 2 ^ k) (d + k) = Toward.even.cut neg n d := by
  unfold Toward.cut
  dsimp only
  have hk := Nat.two_pow_pos k
  have e0 : min (d + k) ((n * 2 ^ k).log2 + 2) = min d (n.log2 + 2) + k := by rw [log2_mul_pow hn]; omega
  rw [e0]
  generalize min d (n.log2 + 2) = g
  simp only [Nat.one_shiftLeft]
  rw [Nat.pow_add, Nat.mul_div_mul_right _ _ hk, Nat.mul_mod_mul_right]
  have e1 : decide (2 ^ g * 2 ^ k < 2 * (n % 2 ^ g * 2 ^ k)) = decide (2 ^ g < 2 * (n % 2 ^ g)) := by
    rw [decide_eq_decide, ← Nat.mul_assoc]
    exact Nat.mul_lt_mul_right hk
  have e2 : (2 ^ g * 2 ^ k == 2 * (n % 2 ^ g * 2 ^ k)) = (2 ^ g == 2 * (n % 2 ^ g)) := by
    rw [Bool.eq_iff_iff, beq_iff_eq, beq_iff_eq, ← Nat.mul_assoc]
    exact ⟨fun h => Nat.eq_of_mul_eq_mul_right hk h, fun h => congrArg (· * 2 ^ k) h⟩
  rw [e1, e2]

theorem nearest_mul (f : Format) (s : Bool) (m k : Nat) (p : Int) : f.nearest s (m * 2 ^ k) (p - k) = f.nearest s m p := by
  by_cases hm : m = 0
  · subst hm; unfold Format.nearest; simp
  have hk := Nat.two_pow_pos k
  have hmk : m * 2 ^ k ≠ 0 := Nat.mul_ne_zero hm (by omega)
  unfold Format.nearest
  rw [if_neg hm, if_neg hmk, log2_mul_pow hm]
  have e0 : p - (k : Int) + ((m.log2 + k : Nat) : Int) - f.fractionBits = p + m.log2 - f.fractionBits := by omega
  simp only [e0]
  generalize max (p + (m.log2 : Int) - f.fractionBits) f.leastPlace = last
  have key : Toward.even.cut s ((m * 2 ^ k) <<< (p - k - last).toNat) (last - (p - k)).toNat = Toward.even.cut s (m <<< (p - last).toNat) (last - p).toNat := by
    rw [Nat.shiftLeft_eq, Nat.shiftLeft_eq]
    by_cases h1 : p < last
    · have a1 : (p - k - last).toNat = 0 := by omega
      have a2 : (p - last).toNat = 0 := by omega
      have a3 : (last - (p - k)).toNat = (last - p).toNat + k := by omega
      rw [a1, a2, a3, Nat.pow_zero, Nat.mul_one, Nat.mul_one]
      exact cut_mul s hm k _
    · have a2 : (last - p).toNat = 0 := by omega
      rw [a2]
      by_cases h2 : last ≤ p - k
      · have a3 : (last - (p - k)).toNat = 0 := by omega
        have a4 : (p - last).toNat = k + (p - k - last).toNat := by omega
        rw [a3, a4, Nat.pow_add, ← Nat.mul_assoc]
      · have a3 : (p - k - last).toNat = 0 := by omega
        have a4 : k = (p - last).toNat + (last - (p - k)).toNat := by omega
        rw [a3, Nat.pow_zero, Nat.mul_one]
        conv => lhs; rw [show m * 2 ^ k = m * 2 ^ (p - last).toNat * 2 ^ (last - (p - k)).toNat by rw [Nat.mul_assoc, ← Nat.pow_add, ← a4]]
        have := cut_mul s (n := m * 2 ^ (p - last).toNat) (Nat.mul_ne_zero hm (by have := Nat.two_pow_pos (p - last).toNat; omega)) (last - (p - k)).toNat 0
        rw [Nat.zero_add] at this
        exact this
  rw [key]

theorem read_log {b : Nat} {s : Bool} {m : Nat} {i : Int} (h : single.read b = .number s m i) : m < 16777216 := by
  unfold Format.read at h
  dsimp only at h
  have hb : single.binade = 8388608 := by decide
  split at h
  · cases h; omega
  · split at h
    · cases h
      have := Nat.mod_lt (b % single.signWeight) (show 0 < single.binade by decide)
      omega
    · split at h <;> cases h

/-- half of a number -/
theorem half32 (x : Option Nat) : fop .quo .f32 x (some 1073741824) = fop .mul .f32 (some 1056964608) x := by
  cases x with
  | none => rfl
  | some b =>
    have r2 : single.read 1073741824 = .number false 8388608 (-22) := by decide
    have rh : single.read 1056964608 = .number false 8388608 (-24) := by decide
    show ((single.read b).quotient (single.fractionBits + 2) (single.read 1073741824)).map single.write = ((single.read 1056964608).product (single.read b)).map single.write
    rw [r2, rh]
    cases hr : single.read b with
    | nan s t => rfl
    | infinity s => cases s <;> rfl
    | number s m i =>
      have hm := read_log hr
      show some (single.nearest (s ^^ false) (2 * (m <<< (single.fractionBits + 2 + (8388608 : Nat).log2 - m.log2) / 8388608) + (m <<< (single.fractionBits + 2 + (8388608 : Nat).log2 - m.log2) % 8388608 != 0).toNat) (i - (-22) - ((single.fractionBits + 2 + (8388608 : Nat).log2 - m.log2 : Nat) : Int) - 1)) = some (single.nearest (false ^^ s) (8388608 * m) (-24 + i))
      congr 1
      rw [Bool.xor_false, Bool.false_xor]
      have hl : m.log2 ≤ 23 := by
        by_cases h0 : m = 0
        · subst h0; decide
        · have : m.log2 < 24 := (Nat.log2_lt h0).2 hm
          omega
      have hd : (8388608 : Nat).log2 = 23 := by decide
      have hf : single.fractionBits = 23 := rfl
      rw [hd, hf]
      obtain ⟨c, hc⟩ : ∃ c, 23 + 2 + 23 - m.log2 = 23 + c := ⟨25 - m.log2, by omega⟩
      rw [hc, Nat.shiftLeft_eq, Nat.pow_add]
      have e8 : (8388608 : Nat) = 2 ^ 23 := by decide
      have e1 : m * (2 ^ 23 * 2 ^ c) / 8388608 = m * 2 ^ c := by
        rw [e8, show m * (2 ^ 23 * 2 ^ c) = m * 2 ^ c * 2 ^ 23 by rw [Nat.mul_assoc, Nat.mul_comm (2 ^ 23)]]
        exact Nat.mul_div_cancel _ (by decide)
      have e2 : m * (2 ^ 23 * 2 ^ c) % 8388608 = 0 := by
        rw [e8, show m * (2 ^ 23 * 2 ^ c) = m * 2 ^ c * 2 ^ 23 by rw [Nat.mul_assoc, Nat.mul_comm (2 ^ 23)]]
        exact Nat.mul_mod_left _ _
      rw [e1, e2]
      show single.nearest s (2 * (m * 2 ^ c) + 0) _ = _
      rw [Nat.add_zero]
      have a1 : 2 * (m * 2 ^ c) = m * 2 ^ (c + 1) := by rw [Nat.pow_succ, Nat.mul_comm 2, Nat.mul_assoc]
      have a2 : i - (-22) - ((23 + c : Nat) : Int) - 1 = (i - 1) - ((c + 1 : Nat) : Int) := by omega
      rw [a1, a2, nearest_mul]
      have a3 : 8388608 * m = m * 2 ^ 23 := by rw [Nat.mul_comm, e8]
      have a4 : (-24 : Int) + i = (i - 1) - ((23 : Nat) : Int) := by omega
      rw [a3, a4, nearest_mul]
end Go.H

/- Rounding is monotone; sums of many terms. -/
set_option linter.unusedVariables false
namespace Go.H
open Go Ieee

theorem cut_even (s : Bool) (n d : Nat) : Toward.even.cut s n d = n / 2 ^ d + (if 2 ^ d < 2 * (n % 2 ^ d) ∨ (2 ^ d = 2 * (n % 2 ^ d) ∧ n / 2 ^ d % 2 = 1) then 1 else 0) := by
  unfold Toward.cut
  dsimp only
  have hp := Nat.two_pow_pos d
  by_cases hd : d ≤ n.log2 + 2
  · rw [Nat.min_eq_left hd, Nat.one_shiftLeft]
    congr 1
    by_cases h1 : 2 ^ d < 2 * (n % 2 ^ d)
    · rw [if_pos (.inl h1), decide_eq_true h1]; rfl
    · by_cases h2 : 2 ^ d = 2 * (n % 2 ^ d) ∧ n / 2 ^ d % 2 = 1
      · rw [if_pos (.inr h2), decide_eq_false h1, show (2 ^ d == 2 * (n % 2 ^ d)) = true from beq_iff_eq.2 h2.1, show (n / 2 ^ d % 2 == 1) = true from beq_iff_eq.2 h2.2]; rfl
      · rw [if_neg (by rintro (h | h); exact h1 h; exact h2 h), decide_eq_false h1]
        have : ((2 ^ d == 2 * (n % 2 ^ d)) && (n / 2 ^ d % 2 == 1)) = false := by
          rw [Bool.and_eq_false_iff, beq_eq_false_iff_ne, beq_eq_false_iff_ne]
          by_cases h3 : 2 ^ d = 2 * (n % 2 ^ d)
          · exact .inr fun h4 => h2 ⟨h3, h4⟩
          · exact .inl h3
        rw [this]; rfl
  · rw [Nat.min_eq_right (by omega), Nat.one_shiftLeft]
    have hl := lt_pow_log2 n
    have e4 : 2 ^ (n.log2 + 2) = 2 * 2 ^ (n.log2 + 1) := by rw [Nat.pow_succ, Nat.mul_comm]
    have hg : 2 ^ (n.log2 + 2) < 2 ^ d := Nat.pow_lt_pow_right (by decide) (by omega)
    have a1 : n / 2 ^ (n.log2 + 2) = 0 := Nat.div_eq_of_lt (by omega)
    have a2 : n % 2 ^ (n.log2 + 2) = n := Nat.mod_eq_of_lt (by omega)
    have a3 : n / 2 ^ d = 0 := Nat.div_eq_of_lt (by omega)
    have a4 : n % 2 ^ d = n := Nat.mod_eq_of_lt (by omega)
    rw [a1, a2, a3, a4, if_neg (by omega), decide_eq_false (by omega), show (2 ^ (n.log2 + 2) == 2 * n) = false from beq_eq_false_iff_ne.2 (by omega)]
    rfl

theorem cut_mono (s : Bool) {n m : Nat} (h : n ≤ m) (d : Nat) : Toward.even.cut s n d ≤ Toward.even.cut s m d := by
  rw [cut_even, cut_even]
  have hq : n / 2 ^ d ≤ m / 2 ^ d := Nat.div_le_div_right h
  by_cases hlt : n / 2 ^ d < m / 2 ^ d
  · split <;> split <;> omega
  · have he : n / 2 ^ d = m / 2 ^ d := by omega
    have d1 := Nat.div_add_mod n (2 ^ d)
    have d2 := Nat.div_add_mod m (2 ^ d)
    rw [he] at d1 ⊢
    generalize n % 2 ^ d = r1 at *
    generalize m % 2 ^ d = r2 at *
    have hr : r1 ≤ r2 := by omega
    by_cases h1 : 2 ^ d < 2 * r1 ∨ (2 ^ d = 2 * r1 ∧ m / 2 ^ d % 2 = 1)
    · have h2 : 2 ^ d < 2 * r2 ∨ (2 ^ d = 2 * r2 ∧ m / 2 ^ d % 2 = 1) := by
        rcases h1 with h1 | ⟨h1, h3⟩
        · exact .inl (by omega)
        · by_cases h4 : r1 = r2
          · subst h4; exact .inr ⟨h1, h3⟩
          · exact .inl (by omega)
      rw [if_pos h1, if_pos h2]
      exact Nat.le_refl _
    · rw [if_neg h1]
      omega

theorem log2_mono {n m : Nat} (hn : n ≠ 0) (h : n ≤ m) : n.log2 ≤ m.log2 :=
  (Nat.le_log2 (by omega)).2 (Nat.le_trans (pow_log2_le hn) h)

theorem nearest_mono (f : Format) (s : Bool) {m n : Nat} (hm : m ≠ 0) (h : m ≤ n) (p : Int) : ∃ r1 r2, f.nearest s m p = f.word s r1 ∧ f.nearest s n p = f.word s r2 ∧ r1 ≤ r2 ∧ r2 ≤ f.infRung := by
  have hn : n ≠ 0 := by omega
  unfold Format.nearest
  rw [if_neg hm, if_neg hn]
  refine ⟨_, _, rfl, rfl, ?_, Nat.min_le_right _ _⟩
  have hl := log2_mono hm h
  have key : (max (p + (m.log2 : Int) - f.fractionBits) f.leastPlace - f.leastPlace).toNat * f.binade + Toward.even.cut s (m <<< (p - max (p + (m.log2 : Int) - f.fractionBits) f.leastPlace).toNat) (max (p + (m.log2 : Int) - f.fractionBits) f.leastPlace - p).toNat ≤ (max (p + (n.log2 : Int) - f.fractionBits) f.leastPlace - f.leastPlace).toNat * f.binade + Toward.even.cut s (n <<< (p - max (p + (n.log2 : Int) - f.fractionBits) f.leastPlace).toNat) (max (p + (n.log2 : Int) - f.fractionBits) f.leastPlace - p).toNat := by
    by_cases he : max (p + (m.log2 : Int) - f.fractionBits) f.leastPlace = max (p + (n.log2 : Int) - f.fractionBits) f.leastPlace
    · rw [he]
      refine Nat.add_le_add_left (cut_mono s ?_ _) _
      rw [Nat.shiftLeft_eq, Nat.shiftLeft_eq]
      exact Nat.mul_le_mul_right _ h
    · have k1 : Toward.even.cut s (m <<< (p - max (p + (m.log2 : Int) - f.fractionBits) f.leastPlace).toNat) (max (p + (m.log2 : Int) - f.fractionBits) f.leastPlace - p).toNat ≤ 2 ^ (f.fractionBits + 1) := by
        apply cut_le_pow
        rw [Nat.shiftLeft_eq]
        refine Nat.lt_of_lt_of_le (Nat.mul_lt_mul_of_pos_right (lt_pow_log2 m) (Nat.two_pow_pos _)) ?_
        rw [← Nat.pow_add]
        apply Nat.pow_le_pow_right (by decide)
        omega
      have k2 : 2 ^ f.fractionBits ≤ Toward.even.cut s (n <<< (p - max (p + (n.log2 : Int) - f.fractionBits) f.leastPlace).toNat) (max (p + (n.log2 : Int) - f.fractionBits) f.leastPlace - p).toNat := by
        apply cut_ge_pow
        rw [Nat.shiftLeft_eq]
        refine Nat.le_trans ?_ (Nat.mul_le_mul_right _ (pow_log2_le hn))
        rw [← Nat.pow_add]
        apply Nat.pow_le_pow_right (by decide)
        omega
      have k3 : (max (p + (m.log2 : Int) - f.fractionBits) f.leastPlace - f.leastPlace).toNat + 1 ≤ (max (p + (n.log2 : Int) - f.fractionBits) f.leastPlace - f.leastPlace).toNat := by omega
      have e1 : (2 : Nat) ^ (f.fractionBits + 1) = 2 * f.binade := by rw [Nat.pow_succ, Nat.mul_comm]; rfl
      have e2 : (2 : Nat) ^ f.fractionBits = f.binade := rfl
      rw [e1] at k1
      rw [e2] at k2
      have := Nat.mul_le_mul_right f.binade k3
      rw [Nat.add_mul, Nat.one_mul] at this
      omega
  omega

/-- what a rung is worth, in units of the least place -/
def rungV (f : Format) (r : Nat) : Nat := if r < f.binade then r else (f.binade + r % f.binade) * 2 ^ (r / f.binade - 1)

theorem rungV_mono (f : Format) {a b : Nat} (h : a ≤ b) : rungV f a ≤ rungV f b := by
  have hb : 0 < f.binade := by unfold Format.binade; exact Nat.two_pow_pos _
  have big : ∀ r, f.binade ≤ r → f.binade * 2 ^ (r / f.binade - 1) ≤ rungV f r ∧ rungV f r ≤ f.binade * 2 ^ (r / f.binade) := by
    intro r hr
    unfold rungV
    rw [if_neg (by omega)]
    have hq : 1 ≤ r / f.binade := (Nat.le_div_iff_mul_le hb).2 (by omega)
    have ht := Nat.mod_lt r hb
    refine ⟨Nat.mul_le_mul_right _ (by omega), ?_⟩
    rw [show r / f.binade = (r / f.binade - 1) + 1 by omega, Nat.pow_succ, Nat.mul_comm (2 ^ _) 2, ← Nat.mul_assoc]
    exact Nat.mul_le_mul_right _ (by omega)
  by_cases h1 : b < f.binade
  · unfold rungV
    rw [if_pos h1, if_pos (by omega)]; exact h
  · by_cases h2 : a < f.binade
    · have := (big b (by omega)).1
      refine Nat.le_trans ?_ this
      unfold rungV
      rw [if_pos h2]
      refine Nat.le_trans (Nat.le_of_lt h2) ?_
      exact Nat.le_mul_of_pos_right _ (Nat.two_pow_pos _)
    · have hq : a / f.binade ≤ b / f.binade := Nat.div_le_div_right h
      by_cases he : a / f.binade = b / f.binade
      · unfold rungV
        rw [if_neg h2, if_neg h1, he]
        have d1 := Nat.div_add_mod a f.binade
        have d2 := Nat.div_add_mod b f.binade
        rw [he] at d1
        exact Nat.mul_le_mul_right _ (by omega)
      · refine Nat.le_trans (big a (by omega)).2 (Nat.le_trans ?_ (big b (by omega)).1)
        exact Nat.mul_le_mul_left _ (Nat.pow_le_pow_right (by decide) (by omega))

theorem read_rung (f : Format) (s : Bool) {r : Nat} (h : r < f.infRung) : ∃ k p, f.read (f.word s r) = .number s k p ∧ f.leastPlace ≤ p ∧ k * 2 ^ (p - f.leastPlace).toNat = rungV f r := by
  rw [read_word f s (Nat.lt_of_lt_of_le h (Nat.le_of_lt f.infRung_lt))]
  unfold rungV
  by_cases h1 : r < f.binade
  · rw [if_pos h1, if_pos h1]
    exact ⟨_, _, rfl, Int.le_refl _, by simp⟩
  · rw [if_neg h1, if_pos h, if_neg h1]
    refine ⟨_, _, rfl, by omega, ?_⟩
    congr 2
    omega

theorem read_inf (f : Format) (s : Bool) (hb : f.binade ≤ f.infRung) : f.read (f.word s f.infRung) = .infinity s := by
  rw [read_word f s f.infRung_lt, if_neg (by omega), if_neg (by omega), if_pos rfl]

/-- what is nearest to less is not more -/
theorem nearest_le (f : Format) (hb : f.binade ≤ f.infRung) (s : Bool) {m n : Nat} (hm : m ≠ 0) (h : m ≤ n) (p : Int) {k2 : Nat} {p2 : Int} (hn : f.read (f.nearest s n p) = .number s k2 p2) :
    ∃ k1 p1, f.read (f.nearest s m p) = .number s k1 p1 ∧ f.leastPlace ≤ p1 ∧ f.leastPlace ≤ p2 ∧ k1 * 2 ^ (p1 - f.leastPlace).toNat ≤ k2 * 2 ^ (p2 - f.leastPlace).toNat := by
  obtain ⟨r1, r2, e1, e2, h1, h2⟩ := nearest_mono f s hm h p
  rw [e2] at hn
  have h3 : r2 < f.infRung := by
    refine Classical.byContradiction fun hh => ?_
    have : r2 = f.infRung := by omega
    subst this
    rw [read_inf f s hb] at hn
    cases hn
  obtain ⟨k, q, a1, a2, a3⟩ := read_rung f s h3
  obtain ⟨k', q', b1, b2, b3⟩ := read_rung f s (Nat.lt_of_le_of_lt h1 h3)
  rw [hn] at a1
  cases a1
  exact ⟨k', q', by rw [e1]; exact b1, b2, a2, by rw [b3, a3]; exact rungV_mono f h1⟩

theorem read_place (f : Format) {b : Nat} {s : Bool} {m : Nat} {p : Int} (h : f.read b = .number s m p) : f.leastPlace ≤ p := by
  unfold Format.read at h
  simp only at h
  split at h
  · cases h; exact Int.le_refl _
  · split at h
    · cases h; omega
    · split at h <;> cases h

/-- at most so many times a power of two -/
def LcD (c : Nat) (q : Int) : Datum → Prop
  | .number _ m p => -1074 ≤ p ∧ m * 2 ^ (p + 1074).toNat ≤ c * 2 ^ (q + 1074).toNat
  | _ => False
def Lc (c : Nat) (q : Int) (x : Option Nat) : Prop := ∀ b, x = some b → LcD c q (double.read b)

theorem write_lc {c : Nat} {q : Int} {s : Bool} {m : Nat} {p : Int} (h : LcD c q (.number s m p)) (hc : 1 ≤ c) (hc2 : c < 2 ^ 53) (h1 : -1074 ≤ q) (h2 : q ≤ 900) : LcD c q (double.read (double.write (.number s m p))) := by
  obtain ⟨hp, hv⟩ := h
  by_cases hm : m = 0
  · subst hm
    rw [read_write_zero]
    exact ⟨by omega, by simp⟩
  · obtain ⟨r1, r2⟩ := read_exact s (m := c) (p := q) (by omega) hc2 h1 h2
    have e1 : double.nearest s m p = double.nearest s (m * 2 ^ (p + 1074).toNat) (-1074) := by
      have := nearest_mul double s m (p + 1074).toNat p
      rw [← this]
      congr 1
      omega
    have e2 : double.nearest s c q = double.nearest s (c * 2 ^ (q + 1074).toNat) (-1074) := by
      have := nearest_mul double s c (q + 1074).toNat q
      rw [← this]
      congr 1
      omega
    rw [e2] at r1
    have hmz : m * 2 ^ (p + 1074).toNat ≠ 0 := Nat.mul_ne_zero hm (by have := Nat.two_pow_pos (p + 1074).toNat; omega)
    obtain ⟨k1, p1, a1, a2, a3, a4⟩ := nearest_le double (by decide) s hmz hv (-1074) r1
    show LcD c q (double.read (double.nearest s m p))
    rw [e1, a1]
    have hL : double.leastPlace = -1074 := by decide
    rw [hL] at a2 a3 a4
    refine ⟨a2, ?_⟩
    have e3 : (p1 - -1074).toNat = (p1 + 1074).toNat := by omega
    rw [e3] at a4
    refine Nat.le_trans a4 (Nat.le_of_eq ?_)
    rw [Nat.shiftLeft_eq, Nat.mul_assoc, ← Nat.pow_add]
    congr 2
    omega

theorem LcD.mono {c d : Nat} {q : Int} {x : Datum} (h : LcD c q x) (hcd : c ≤ d) : LcD d q x := by
  cases x with
  | number s m p => exact ⟨h.1, Nat.le_trans h.2 (Nat.mul_le_mul_right _ hcd)⟩
  | infinity _ => exact h
  | nan _ _ => exact h

theorem sum_lc {c d : Nat} {q : Int} {x y z : Datum} (hx : LcD c q x) (hy : LcD d q y) (h : x.sum y = some z) : LcD (c + d) q z := by
  cases x with
  | infinity _ => exact absurd hx (by intro h; exact h)
  | nan _ _ => exact absurd hx (by intro h; exact h)
  | number s m p =>
    cases y with
    | infinity _ => exact absurd hy (by intro h; exact h)
    | nan _ _ => exact absurd hy (by intro h; exact h)
    | number t n k =>
      obtain ⟨hx1, hx2⟩ := hx
      obtain ⟨hy1, hy2⟩ := hy
      unfold Datum.sum at h
      dsimp only at h
      have hz := Option.some.inj h
      rw [← hz]
      have hmag : (signed s m (p - min p k).toNat + signed t n (k - min p k).toNat).natAbs ≤ m * 2 ^ (p - min p k).toNat + n * 2 ^ (k - min p k).toNat := by
        have := Int.natAbs_add_le (signed s m (p - min p k).toNat) (signed t n (k - min p k).toNat)
        rw [natAbs_signed, natAbs_signed] at this
        exact this
      refine ⟨by omega, ?_⟩
      calc (signed s m (p - min p k).toNat + signed t n (k - min p k).toNat).natAbs * 2 ^ (min p k + 1074).toNat ≤ (m * 2 ^ (p - min p k).toNat + n * 2 ^ (k - min p k).toNat) * 2 ^ (min p k + 1074).toNat := Nat.mul_le_mul_right _ hmag
        _ = m * 2 ^ (p + 1074).toNat + n * 2 ^ (k + 1074).toNat := by
          rw [Nat.add_mul, Nat.mul_assoc, Nat.mul_assoc, ← Nat.pow_add, ← Nat.pow_add]
          congr 3 <;> omega
        _ ≤ c * 2 ^ (q + 1074).toNat + d * 2 ^ (q + 1074).toNat := Nat.add_le_add hx2 hy2
        _ = _ := by rw [Nat.add_mul]

theorem Lc.add {c d : Nat} {q : Int} {x y : Option Nat} (hx : Lc c q x) (hy : Lc d q y) (hc : 1 ≤ c + d) (hc2 : c + d < 2 ^ 53) (h1 : -1074 ≤ q) (h2 : q ≤ 900) : Lc (c + d) q (fop .add .f64 x y) := by
  intro b hb
  obtain ⟨a, a', rfl, rfl, hf⟩ := fop_some hb
  obtain ⟨z, hz, rfl⟩ := Option.map_eq_some_iff.1 (show ((double.read a).sum (double.read a')).map double.write = some b from hf)
  have := sum_lc (hx a rfl) (hy a' rfl) hz
  cases z with
  | number s m p => exact write_lc this hc hc2 h1 h2
  | infinity _ => exact absurd this (by intro h; exact h)
  | nan _ _ => exact absurd this (by intro h; exact h)

theorem Le.lc {e : Int} {x : Option Nat} (h : Le e x) : Lc 1 e x := by
  intro b hb
  have hl := h b hb
  cases hr : double.read b with
  | number s m p =>
    rw [hr] at hl
    have hp := read_place double hr
    have hL : double.leastPlace = -1074 := by decide
    rw [hL] at hp
    refine ⟨hp, ?_⟩
    rcases hl with hl | ⟨hl1, hl2⟩
    · rw [hl, Nat.zero_mul]; exact Nat.zero_le _
    · rw [Nat.one_mul]
      calc m * 2 ^ (p + 1074).toNat ≤ 2 ^ (e - p).toNat * 2 ^ (p + 1074).toNat := Nat.mul_le_mul_right _ hl2
        _ = 2 ^ (e + 1074).toNat := by rw [← Nat.pow_add]; congr 1; omega
  | infinity s => rw [hr] at hl; exact hl
  | nan s t => rw [hr] at hl; exact hl

theorem Lc.le {c k : Nat} {q : Int} {x : Option Nat} (h : Lc c q x) (hc : c ≤ 2 ^ k) (hq : -1074 ≤ q) : Le (q + k) x := by
  intro b hb
  have hl := h b hb
  cases hr : double.read b with
  | number s m p =>
    rw [hr] at hl
    obtain ⟨hp, hv⟩ := hl
    by_cases hm : m = 0
    · exact .inl hm
    · refine .inr ?_
      have h1 : m * 2 ^ (p + 1074).toNat ≤ 2 ^ (q + k + 1074).toNat := by
        refine Nat.le_trans hv (Nat.le_trans (Nat.mul_le_mul_right _ hc) ?_)
        rw [← Nat.pow_add]
        exact Nat.pow_le_pow_right (by decide) (by omega)
      have h2 : (p + 1074).toNat ≤ (q + k + 1074).toNat := by
        refine Classical.byContradiction fun hh => ?_
        have : 2 ^ (q + k + 1074).toNat < 2 ^ (p + 1074).toNat := Nat.pow_lt_pow_right (by decide) (by omega)
        have := Nat.le_mul_of_pos_left (2 ^ (p + 1074).toNat) (show 0 < m by omega)
        omega
      refine ⟨by omega, ?_⟩
      have h3 : 2 ^ (q + k + 1074).toNat = 2 ^ (q + k - p).toNat * 2 ^ (p + 1074).toNat := by rw [← Nat.pow_add]; congr 1; omega
      rw [h3] at h1
      exact Nat.le_of_mul_le_mul_right h1 (Nat.two_pow_pos _)
  | infinity s => rw [hr] at hl; exact hl
  | nan s t => rw [hr] at hl; exact hl
end Go.H
