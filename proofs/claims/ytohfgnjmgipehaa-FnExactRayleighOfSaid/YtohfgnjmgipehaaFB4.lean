/- Bounds that are met: at most '2 ^ e'. -/
import Derived.Test.YtohfgnjmgipehaaFB3
namespace Go.H
open Go Ieee

def LeD (e : Int) : Datum → Prop
  | .number _ m p => m = 0 ∨ (p ≤ e ∧ m ≤ 2 ^ (e - p).toNat)
  | _ => False
def Le (e : Int) (x : Option Nat) : Prop := ∀ b, x = some b → LeD e (double.read b)

instance decBd (e : Int) (d : Datum) : Decidable (BdD e d) := match d with
  | .number _ m p => inferInstanceAs (Decidable (m = 0 ∨ (m.log2 : Int) + p < e))
  | .infinity _ => isFalse id
  | .nan _ _ => isFalse id
instance decLo (e : Int) (d : Datum) : Decidable (LoD e d) := match d with
  | .number _ m p => inferInstanceAs (Decidable (m ≠ 0 ∧ e ≤ (m.log2 : Int) + p))
  | .infinity _ => isTrue trivial
  | .nan _ _ => isFalse id
instance decLe (e : Int) (d : Datum) : Decidable (LeD e d) := match d with
  | .number _ m p => inferInstanceAs (Decidable (m = 0 ∨ (p ≤ e ∧ m ≤ 2 ^ (e - p).toNat)))
  | .infinity _ => isFalse id
  | .nan _ _ => isFalse id

theorem le_none {e : Int} : Le e none := by intro b h; cases h
theorem LeD.mono {e e' : Int} {d : Datum} (h : LeD e d) (he : e ≤ e') : LeD e' d := by
  cases d with
  | number s m p => exact h.imp id (fun h => ⟨by omega, Nat.le_trans h.2 (Nat.pow_le_pow_right (by decide) (by omega))⟩)
  | infinity _ => exact h
  | nan _ _ => exact h
theorem Le.mono {e e' : Int} {x : Option Nat} (h : Le e x) (he : e ≤ e') : Le e' x := fun b hb => (h b hb).mono he
theorem LeD.bd {e : Int} {d : Datum} (h : LeD e d) : BdD (e + 1) d := by
  cases d with
  | number s m p =>
    by_cases h0 : m = 0
    · exact .inl h0
    · refine .inr ?_
      rcases h with h | ⟨h1, h2⟩
      · exact absurd h h0
      · have : m.log2 < (e - p).toNat + 1 := by
          rw [Nat.log2_lt h0, Nat.pow_succ]
          have := Nat.two_pow_pos (e - p).toNat
          omega
        omega
  | infinity _ => exact h
  | nan _ _ => exact h
theorem Le.bd {e : Int} {x : Option Nat} (h : Le e x) : Bd (e + 1) x := fun b hb => (h b hb).bd
theorem BdD.le {e : Int} {d : Datum} (h : BdD e d) : LeD e d := by
  cases d with
  | number s m p =>
    refine h.imp id fun h => ⟨by omega, ?_⟩
    refine Nat.le_trans (Nat.le_of_lt (lt_pow_log2 m)) (Nat.pow_le_pow_right (by decide) (by omega))
  | infinity _ => exact h
  | nan _ _ => exact h

theorem cut_le_pow' (neg : Bool) (n drop k : Nat) (h : n ≤ 2 ^ (k + drop)) : Toward.even.cut neg n drop ≤ 2 ^ k := by
  by_cases hlt : n < 2 ^ (k + drop)
  · exact cut_le_pow neg n drop k hlt
  · have hn : n = 2 ^ (k + drop) := by omega
    subst hn
    unfold Toward.cut
    dsimp only
    rw [Nat.log2_two_pow, Nat.one_shiftLeft, Nat.min_eq_left (by omega)]
    have e1 : 2 ^ (k + drop) / 2 ^ drop = 2 ^ k := by rw [Nat.pow_add, Nat.mul_div_cancel _ (Nat.two_pow_pos _)]
    have e2 : 2 ^ (k + drop) % 2 ^ drop = 0 := by rw [Nat.pow_add, Nat.mul_mod_left]
    rw [e1, e2]
    have hp := Nat.two_pow_pos drop
    have : (decide (2 ^ drop < 2 * 0) || (2 ^ drop == 2 * 0 && 2 ^ k % 2 == 1)) = false := by
      have a : decide (2 ^ drop < 2 * 0) = false := by simp
      have b : (2 ^ drop == 2 * 0) = false := by
        rw [beq_eq_false_iff_ne]; omega
      rw [a, b]; rfl
    rw [this]
    exact Nat.le_refl _

theorem nearest_top (f : Format) (neg : Bool) {m : Nat} (hm : m ≠ 0) (p e : Int) (h1 : p ≤ e) (h2 : m ≤ 2 ^ (e - p).toNat) (h3 : f.leastPlace + f.fractionBits ≤ e) :
    ∃ r, r ≤ (e + 1 - f.fractionBits - f.leastPlace).toNat * f.binade ∧ f.nearest neg m p = f.word neg (min r f.infRung) := by
  unfold Format.nearest
  rw [if_neg hm]
  refine ⟨_, ?_, rfl⟩
  by_cases hl : (m.log2 : Int) + p < e
  · have hk : Toward.even.cut neg (m <<< (p - max (p + m.log2 - f.fractionBits) f.leastPlace).toNat) (max (p + m.log2 - f.fractionBits) f.leastPlace - p).toNat ≤ 2 ^ (f.fractionBits + 1) := by
      apply cut_le_pow
      rw [Nat.shiftLeft_eq]
      refine Nat.lt_of_lt_of_le (Nat.mul_lt_mul_of_pos_right (lt_pow_log2 m) (Nat.two_pow_pos _)) ?_
      rw [← Nat.pow_add]
      apply Nat.pow_le_pow_right (by decide)
      omega
    have e1 : (2 : Nat) ^ (f.fractionBits + 1) = 2 * f.binade := by rw [Nat.pow_succ, Nat.mul_comm]; rfl
    by_cases hsub : p + m.log2 - f.fractionBits < f.leastPlace
    · -- below the normal ones
      have hk2 : Toward.even.cut neg (m <<< (p - max (p + m.log2 - f.fractionBits) f.leastPlace).toNat) (max (p + m.log2 - f.fractionBits) f.leastPlace - p).toNat ≤ 2 ^ f.fractionBits := by
        apply cut_le_pow
        rw [Nat.shiftLeft_eq]
        refine Nat.lt_of_lt_of_le (Nat.mul_lt_mul_of_pos_right (lt_pow_log2 m) (Nat.two_pow_pos _)) ?_
        rw [← Nat.pow_add]
        apply Nat.pow_le_pow_right (by decide)
        omega
      have e2 : (max (p + m.log2 - f.fractionBits) f.leastPlace - f.leastPlace).toNat = 0 := by omega
      rw [e2, Nat.zero_mul, Nat.zero_add]
      refine Nat.le_trans hk2 ?_
      exact Nat.le_mul_of_pos_left _ (by omega)
    · have e2 : (max (p + m.log2 - f.fractionBits) f.leastPlace - f.leastPlace).toNat + 2 ≤ (e + 1 - f.fractionBits - f.leastPlace).toNat := by omega
      refine Nat.le_trans (Nat.add_le_add_left hk _) ?_
      rw [e1, ← Nat.add_mul]
      exact Nat.mul_le_mul_right _ e2
  · have hlog : m.log2 = (e - p).toNat := by
      have hle : m.log2 < (e - p).toNat + 1 := by
        rw [Nat.log2_lt hm, Nat.pow_succ]
        have := Nat.two_pow_pos (e - p).toNat
        omega
      omega
    have hk : Toward.even.cut neg (m <<< (p - max (p + m.log2 - f.fractionBits) f.leastPlace).toNat) (max (p + m.log2 - f.fractionBits) f.leastPlace - p).toNat ≤ 2 ^ f.fractionBits := by
      apply cut_le_pow'
      rw [Nat.shiftLeft_eq]
      refine Nat.le_trans (Nat.mul_le_mul_right _ h2) ?_
      rw [← Nat.pow_add]
      apply Nat.pow_le_pow_right (by decide)
      omega
    have e2 : (max (p + m.log2 - f.fractionBits) f.leastPlace - f.leastPlace).toNat + 1 ≤ (e + 1 - f.fractionBits - f.leastPlace).toNat := by omega
    refine Nat.le_trans (Nat.add_le_add_left hk _) ?_
    have : f.binade = 2 ^ f.fractionBits := rfl
    rw [← this]
    calc _ = ((max (p + m.log2 - f.fractionBits) f.leastPlace - f.leastPlace).toNat + 1) * f.binade := by rw [Nat.add_mul, Nat.one_mul]
      _ ≤ _ := Nat.mul_le_mul_right _ e2

/-- a rung's bound -/
theorem rung_le (f : Format) (s : Bool) {r : Nat} {e : Int} (h : r ≤ (e + 1 - f.fractionBits - f.leastPlace).toNat * f.binade) (h3 : f.leastPlace + f.fractionBits ≤ e) (h2 : e + 1 - f.fractionBits - f.leastPlace ≤ ((2 ^ f.exponentBits : Nat) : Int) - 2) : LeD e (f.read (f.word s (min r f.infRung))) := by
  have hb : 0 < f.binade := by unfold Format.binade; exact Nat.two_pow_pos _
  have hinf : f.infRung = (2 ^ f.exponentBits - 1) * f.binade := rfl
  have hp2 : 0 < 2 ^ f.exponentBits := Nat.two_pow_pos _
  have hlt : (e + 1 - f.fractionBits - f.leastPlace).toNat * f.binade < f.infRung := by
    rw [hinf]
    apply Nat.mul_lt_mul_of_pos_right _ hb
    omega
  rw [Nat.min_eq_left (by omega)]
  have hbin : f.binade = 2 ^ f.fractionBits := rfl
  rw [read_word f s (Nat.lt_of_le_of_lt (Nat.le_of_lt (Nat.lt_of_le_of_lt h hlt)) f.infRung_lt)]
  by_cases h1 : r < f.binade
  · rw [if_pos h1]
    refine .inr ⟨by omega, ?_⟩
    refine Nat.le_trans (Nat.le_of_lt h1) ?_
    rw [hbin]
    exact Nat.pow_le_pow_right (by decide) (by omega)
  · rw [if_neg h1, if_pos (by omega)]
    refine .inr ?_
    have hq1 : 1 ≤ r / f.binade := (Nat.le_div_iff_mul_le hb).2 (by omega)
    have hmod := Nat.mod_lt r hb
    have hdm := Nat.div_add_mod r f.binade
    by_cases hq : r / f.binade < (e + 1 - f.fractionBits - f.leastPlace).toNat
    · refine ⟨by omega, ?_⟩
      have : f.binade + r % f.binade ≤ 2 ^ (f.fractionBits + 1) := by rw [Nat.pow_succ, ← hbin]; omega
      refine Nat.le_trans this (Nat.pow_le_pow_right (by decide) (by omega))
    · have hqe : r / f.binade = (e + 1 - f.fractionBits - f.leastPlace).toNat := by
        have : r / f.binade ≤ (e + 1 - f.fractionBits - f.leastPlace).toNat := by
          apply Nat.div_le_of_le_mul; rw [Nat.mul_comm]; exact h
        omega
      have hr0 : r % f.binade = 0 := by
        rw [hqe] at hdm
        rw [Nat.mul_comm] at hdm
        omega
      rw [hqe, hr0]
      refine ⟨by omega, ?_⟩
      rw [Nat.add_zero, hbin]
      exact Nat.pow_le_pow_right (by decide) (by omega)

theorem write_le {e : Int} {s : Bool} {m : Nat} {p : Int} (h : LeD e (.number s m p)) (h1 : -1022 ≤ e) (h2 : e ≤ 1023) : LeD e (double.read (double.write (.number s m p))) := by
  have a : double.leastPlace + double.fractionBits ≤ e := by show (-1074 : Int) + 52 ≤ e; omega
  have b : e + 1 - double.fractionBits - double.leastPlace ≤ ((2 ^ double.exponentBits : Nat) : Int) - 2 := by show e + 1 - 52 - (-1074) ≤ ((2 ^ 11 : Nat) : Int) - 2; omega
  by_cases hm : m = 0
  · subst hm
    rw [read_write_zero]
    exact .inl rfl
  · rcases h with h | ⟨h3, h4⟩
    · exact absurd h hm
    · obtain ⟨r, hr, hw⟩ := nearest_top double s hm p e h3 h4 a
      show LeD e (double.read (double.nearest s m p))
      rw [hw]
      exact rung_le double s hr a b

theorem le_map {e : Int} {d : Option Datum} (h : ∀ y, d = some y → LeD e y) (h1 : -1022 ≤ e) (h2 : e ≤ 1023) : Le e (d.map double.write) := by
  intro b hb
  obtain ⟨y, hy, rfl⟩ := Option.map_eq_some_iff.1 hb
  have := h y hy
  cases y with
  | number s m p => exact write_le this h1 h2
  | infinity _ => exact absurd this (by intro h; exact h)
  | nan _ _ => exact absurd this (by intro h; exact h)

theorem scaledLe {m : Nat} {p e base : Int} (h : m = 0 ∨ (p ≤ e ∧ m ≤ 2 ^ (e - p).toNat)) (hb : base ≤ p) : m * 2 ^ (p - base).toNat ≤ 2 ^ (e - base).toNat := by
  rcases h with h | ⟨h1, h2⟩
  · subst h; rw [Nat.zero_mul]; exact Nat.zero_le _
  · calc m * 2 ^ (p - base).toNat ≤ 2 ^ (e - p).toNat * 2 ^ (p - base).toNat := Nat.mul_le_mul_right _ h2
      _ = 2 ^ (e - base).toNat := by rw [← Nat.pow_add]; congr 1; omega

theorem sum_le {e : Int} {x y z : Datum} (hx : LeD e x) (hy : LeD e y) (h : x.sum y = some z) : LeD (e + 1) z ∧ (x.neg ≠ y.neg → LeD e z) := by
  cases x with
  | infinity _ => exact absurd hx (by intro h; exact h)
  | nan _ _ => exact absurd hx (by intro h; exact h)
  | number s m i =>
    cases y with
    | infinity _ => exact absurd hy (by intro h; exact h)
    | nan _ _ => exact absurd hy (by intro h; exact h)
    | number t n j =>
      simp only [Datum.sum, Option.some.injEq] at h
      subst h
      have h1 := scaledLe hx (Int.min_le_left i j)
      have h2 := scaledLe hy (Int.min_le_right i j)
      have base : ∀ T : Nat, T ≠ 0 → T ≤ m * 2 ^ (i - min i j).toNat + n * 2 ^ (j - min i j).toNat → min i j ≤ e := by
        intro T hT hT2
        rcases hx with hx | hx
        · rcases hy with hy | hy
          · subst hx; subst hy; simp at hT2; omega
          · omega
        · omega
      have hn : (signed s m (i - min i j).toNat + signed t n (j - min i j).toNat).natAbs ≤ m * 2 ^ (i - min i j).toNat + n * 2 ^ (j - min i j).toNat := by
        have := Int.natAbs_add_le (signed s m (i - min i j).toNat) (signed t n (j - min i j).toNat)
        rwa [natAbs_signed, natAbs_signed] at this
      constructor
      · by_cases h0 : (signed s m (i - min i j).toNat + signed t n (j - min i j).toNat).natAbs = 0
        · exact .inl h0
        · have hb := base _ h0 hn
          refine .inr ⟨by omega, ?_⟩
          rw [show (e + 1 - min i j).toNat = (e - min i j).toNat + 1 by omega, Nat.pow_succ]
          omega
      · intro hst
        have hst : s ≠ t := hst
        by_cases h0 : (signed s m (i - min i j).toNat + signed t n (j - min i j).toNat).natAbs = 0
        · exact .inl h0
        · have hb := base _ h0 hn
          refine .inr ⟨by omega, ?_⟩
          have e1 : ∀ (s : Bool) (m u : Nat), signed s m u = if s then -((m * 2 ^ u : Nat) : Int) else ((m * 2 ^ u : Nat) : Int) := by
            intro s m u; unfold signed; rw [Nat.shiftLeft_eq]
          rw [e1, e1]
          cases s <;> cases t
          · exact absurd rfl hst
          · simp only [Bool.false_eq_true, if_false, if_true]; omega
          · simp only [Bool.false_eq_true, if_false, if_true]; omega
          · exact absurd rfl hst

theorem opposite_le {e : Int} {x : Datum} (h : LeD e x) : LeD e x.opposite := by
  cases x <;> exact h

theorem Le.add {e : Int} {x y : Option Nat} (hx : Le e x) (hy : Le e y) (h1 : -1023 ≤ e) (h2 : e ≤ 1022) : Le (e + 1) (fop .add .f64 x y) := by
  cases x with
  | none => exact le_none
  | some a => cases y with
    | none => exact le_none
    | some b => exact le_map (d := (double.read a).sum (double.read b)) (fun z hz => (sum_le (hx a rfl) (hy b rfl) hz).1) (by omega) (by omega)
theorem Le.sub {e : Int} {x y : Option Nat} (hx : Le e x) (hy : Le e y) (h1 : -1023 ≤ e) (h2 : e ≤ 1022) : Le (e + 1) (fop .sub .f64 x y) := by
  cases x with
  | none => exact le_none
  | some a => cases y with
    | none => exact le_none
    | some b => exact le_map (d := (double.read a).sum (double.read b).opposite) (fun z hz => (sum_le (hx a rfl) (opposite_le (hy b rfl)) hz).1) (by omega) (by omega)

/-- the sign of a number -/
def Sg (s : Bool) (x : Option Nat) : Prop := ∀ b, x = some b → (double.read b).neg = s
theorem Le.addOpp {e : Int} {s : Bool} {x y : Option Nat} (hx : Le e x) (hy : Le e y) (sx : Sg s x) (sy : Sg (!s) y) (h1 : -1022 ≤ e) (h2 : e ≤ 1023) : Le e (fop .add .f64 x y) := by
  cases x with
  | none => exact le_none
  | some a => cases y with
    | none => exact le_none
    | some b => exact le_map (d := (double.read a).sum (double.read b)) (fun z hz => (sum_le (hx a rfl) (hy b rfl) hz).2 (by rw [sx a rfl, sy b rfl]; cases s <;> decide)) h1 h2
theorem Le.subSame {e : Int} {s : Bool} {x y : Option Nat} (hx : Le e x) (hy : Le e y) (sx : Sg s x) (sy : Sg s y) (h1 : -1022 ≤ e) (h2 : e ≤ 1023) : Le e (fop .sub .f64 x y) := by
  cases x with
  | none => exact le_none
  | some a => cases y with
    | none => exact le_none
    | some b =>
      refine le_map (d := (double.read a).sum (double.read b).opposite) (fun z hz => (sum_le (hx a rfl) (opposite_le (hy b rfl)) hz).2 ?_) h1 h2
      have h1 := sx a rfl
      have h2 := sy b rfl
      rw [h1]
      have h3 := hy b rfl
      revert h2 h3
      cases double.read b with
      | number t n j => intro h2 _; show s ≠ !t; have : t = s := h2; rw [this]; cases s <;> decide
      | infinity _ => intro _ h; exact absurd h (by intro h; exact h)
      | nan _ _ => intro _ h; exact absurd h (by intro h; exact h)

theorem product_le {d e : Int} {x y z : Datum} (hx : LeD d x) (hy : LeD e y) (h : x.product y = some z) : LeD (d + e) z := by
  cases x with
  | infinity _ => exact absurd hx (by intro h; exact h)
  | nan _ _ => exact absurd hx (by intro h; exact h)
  | number s m i =>
    cases y with
    | infinity _ => exact absurd hy (by intro h; exact h)
    | nan _ _ => exact absurd hy (by intro h; exact h)
    | number t n j =>
      simp only [Datum.product, Option.some.injEq] at h
      subst h
      rcases hx with hx | ⟨h1, h2⟩
      · exact .inl (by rw [hx, Nat.zero_mul])
      · rcases hy with hy | ⟨h3, h4⟩
        · exact .inl (by rw [hy, Nat.mul_zero])
        · refine .inr ⟨by omega, ?_⟩
          calc m * n ≤ 2 ^ (d - i).toNat * 2 ^ (e - j).toNat := Nat.mul_le_mul h2 h4
            _ = _ := by rw [← Nat.pow_add]; congr 1; omega

theorem Le.mul {d e : Int} {x y : Option Nat} (hx : Le d x) (hy : Le e y) (h1 : -1022 ≤ d + e) (h2 : d + e ≤ 1023) : Le (d + e) (fop .mul .f64 x y) := by
  cases x with
  | none => exact le_none
  | some a => cases y with
    | none => exact le_none
    | some b => exact le_map (d := (double.read a).product (double.read b)) (fun z hz => product_le (hx a rfl) (hy b rfl) hz) h1 h2

theorem quotient_le {d e : Int} {digits : Nat} {x y z : Datum} (hx : LeD d x) (hy : LoD e y) (h : x.quotient digits y = some z) : LeD (d - e) z := by
  cases x with
  | infinity _ => exact absurd hx (by intro h; exact h)
  | nan _ _ => exact absurd hx (by intro h; exact h)
  | number s m i =>
    cases y with
    | infinity _ =>
      simp only [Datum.quotient, Option.some.injEq] at h
      subst h
      exact .inl rfl
    | nan _ _ => exact absurd hy (by intro h; exact h)
    | number t n j =>
      obtain ⟨hn, hy⟩ := hy
      simp only [Datum.quotient, if_neg hn, Option.some.injEq] at h
      subst h
      by_cases hm : m = 0
      · refine .inl ?_
        subst hm
        simp
      · rcases hx with hx | ⟨hx1, hx2⟩
        · exact absurd hx hm
        · generalize hk : digits + n.log2 - m.log2 = k
          -- m * 2^k ≤ T * n, T = 2^(d - e - i + j + k)
          have hlm : m.log2 ≤ (d - i).toNat := by
            have := Nat.log2_lt hm (k := (d - i).toNat + 1)
            have h3 : m < 2 ^ ((d - i).toNat + 1) := by
              rw [Nat.pow_succ]
              have := Nat.two_pow_pos (d - i).toNat
              omega
            have := this.2 h3
            omega
          by_cases hneg : (d - i) + k < n.log2
          · -- the quotient is less than one: below any place
            have hq : (m <<< k) / n = 0 := by
              apply Nat.div_eq_of_lt
              rw [Nat.shiftLeft_eq]
              calc m * 2 ^ k ≤ 2 ^ (d - i).toNat * 2 ^ k := Nat.mul_le_mul_right _ hx2
                _ = 2 ^ ((d - i).toNat + k) := (Nat.pow_add ..).symm
                _ < 2 ^ n.log2 := Nat.pow_lt_pow_right (by decide) (by omega)
                _ ≤ n := pow_log2_le hn
            omega
          · have hT : m <<< k ≤ 2 ^ ((d - i).toNat + k - n.log2) * n := by
              rw [Nat.shiftLeft_eq]
              calc m * 2 ^ k ≤ 2 ^ (d - i).toNat * 2 ^ k := Nat.mul_le_mul_right _ hx2
                _ = 2 ^ ((d - i).toNat + k - n.log2) * 2 ^ n.log2 := by rw [← Nat.pow_add, ← Nat.pow_add]; congr 1; omega
                _ ≤ _ := Nat.mul_le_mul_left _ (pow_log2_le hn)
            have hbt : ∀ b : Bool, b.toNat ≤ 1 := by decide
            have hmag : 2 * ((m <<< k) / n) + ((m <<< k) % n != 0).toNat ≤ 2 * 2 ^ ((d - i).toNat + k - n.log2) := by
              generalize hA : m <<< k = A at *
              have hdm := Nat.div_add_mod A n
              by_cases hlt : A / n < 2 ^ ((d - i).toNat + k - n.log2)
              · have := hbt (A % n != 0)
                omega
              · have h4 : A / n ≤ 2 ^ ((d - i).toNat + k - n.log2) := by
                  apply Nat.div_le_of_le_mul; rw [Nat.mul_comm]; exact hT
                have h5 : A / n = 2 ^ ((d - i).toNat + k - n.log2) := by omega
                have h6 : A % n = 0 := by
                  rw [h5, Nat.mul_comm] at hdm
                  omega
                rw [h5, h6]
                exact Nat.le_refl _
            by_cases h0 : 2 * ((m <<< k) / n) + ((m <<< k) % n != 0).toNat = 0
            · exact .inl h0
            · refine .inr ⟨by omega, Nat.le_trans hmag ?_⟩
              rw [show 2 * 2 ^ ((d - i).toNat + k - n.log2) = 2 ^ ((d - i).toNat + k - n.log2 + 1) by rw [Nat.pow_succ, Nat.mul_comm]]
              exact Nat.pow_le_pow_right (by decide) (by omega)

theorem Le.quo {d e : Int} {x y : Option Nat} (hx : Le d x) (hy : Lo e y) (h1 : -1022 ≤ d - e) (h2 : d - e ≤ 1023) : Le (d - e) (fop .quo .f64 x y) := by
  cases x with
  | none => exact le_none
  | some a => cases y with
    | none => exact le_none
    | some b => exact le_map (d := (double.read a).quotient 54 (double.read b)) (fun z hz => quotient_le (hx a rfl) (hy b rfl) hz) h1 h2

theorem Le.fcv {e : Int} {x : Option Nat} (h : Le e x) (he : e ≤ 126) : ∃ y, Go.H.fcv .f64 .f32 x = some y := Bd.fcv (h.bd.mono (by omega))
theorem le_const (e : Int) (b : Nat) (h : LeD e (double.read b)) : Le e (some b) := by
  intro c hc; cases hc; exact h
theorem bd_const (e : Int) (b : Nat) (h : BdD e (double.read b)) : Bd e (some b) := by
  intro c hc; cases hc; exact h
theorem lo_const (e : Int) (b : Nat) (h : LoD e (double.read b)) : Lo e (some b) := by
  intro c hc; cases hc; exact h
theorem sg_const (s : Bool) (b : Nat) (h : (double.read b).neg = s) : Sg s (some b) := by
  intro c hc; cases hc; exact h
theorem Le.neg {e : Int} {x : Option Nat} (h : Le e x) : Le e (fneg .f64 x) := by
  intro b hb
  unfold fneg at hb
  obtain ⟨a, rfl, rfl⟩ := Option.map_eq_some_iff.1 hb
  have := h a rfl
  have e1 : (Op.negFloat .f64 a) % 2 ^ 63 = a % 2 ^ 63 := by
    show (a ^^^ 2 ^ (11 + 52)) % 2 ^ 63 = _
    rw [Nat.xor_mod_two_pow, show 2 ^ (11 + 52) % 2 ^ 63 = 0 by decide, Nat.xor_zero]
  have key : ∀ b, LeD e (double.read (b % 2 ^ 63)) ↔ LeD e (double.read b) := by
    intro b
    rw [read_abs]
    cases double.read b <;> exact Iff.rfl
  rw [← key, e1, key]
  exact this
end Go.H
