/- The library: frames told in part, a judgement on code over them, floats. -/
import Derived.Test.YtjlnfficehomhaaGreatDoorLibA
/- Bounds on floats, by powers of two. -/
namespace Go.H
open Go Ieee

/-- less than '2 ^ e' -/
def BdD (e : Int) : Datum → Prop
  | .number _ m p => m = 0 ∨ (m.log2 : Int) + p < e
  | _ => False
/-- at least '2 ^ e', or an infinity -/
def LoD (e : Int) : Datum → Prop
  | .number _ m p => m ≠ 0 ∧ e ≤ (m.log2 : Int) + p
  | .infinity _ => True
  | _ => False
/-- not below nought -/
def NnD : Datum → Prop
  | .number s m _ => s = false ∨ m = 0
  | .infinity s => s = false
  | _ => False

theorem log2_lt_iff {n k : Nat} (h : n ≠ 0) : n.log2 < k ↔ n < 2 ^ k := Nat.log2_lt h
theorem lt_pow_log2 (n : Nat) : n < 2 ^ (n.log2 + 1) := Nat.lt_log2_self
theorem pow_log2_le {n : Nat} (h : n ≠ 0) : 2 ^ n.log2 ≤ n := Nat.log2_self_le h

theorem cut_le_pow (neg : Bool) (n drop k : Nat) (h : n < 2 ^ (k + drop)) : Toward.even.cut neg n drop ≤ 2 ^ k := by
  unfold Toward.cut
  dsimp only
  have hb : ∀ b : Bool, b.toNat ≤ 1 := by decide
  have key : n / (1 <<< min drop (n.log2 + 2)) < 2 ^ k := by
    rw [Nat.one_shiftLeft]
    by_cases hd : drop ≤ n.log2 + 2
    · rw [Nat.min_eq_left hd, Nat.div_lt_iff_lt_mul (Nat.two_pow_pos _), ← Nat.pow_add]
      exact h
    · rw [Nat.min_eq_right (by omega)]
      have : n / 2 ^ (n.log2 + 2) = 0 := Nat.div_eq_of_lt (Nat.lt_trans (lt_pow_log2 n) (Nat.pow_lt_pow_right (by decide) (by omega)))
      rw [this]
      exact Nat.two_pow_pos _
  have := hb (decide ((1 <<< min drop (n.log2 + 2)) < 2 * (n % (1 <<< min drop (n.log2 + 2)))) || ((1 <<< min drop (n.log2 + 2)) == 2 * (n % (1 <<< min drop (n.log2 + 2))) && n / (1 <<< min drop (n.log2 + 2)) % 2 == 1))
  omega

theorem cut_ge_pow (neg : Bool) (n drop k : Nat) (h : 2 ^ (k + drop) ≤ n) : 2 ^ k ≤ Toward.even.cut neg n drop := by
  unfold Toward.cut
  dsimp only
  have hn : n ≠ 0 := by
    have := Nat.two_pow_pos (k + drop)
    omega
  have hl : k + drop ≤ n.log2 := (Nat.le_log2 hn).2 h
  rw [Nat.one_shiftLeft, Nat.min_eq_left (by omega)]
  have : 2 ^ k ≤ n / 2 ^ drop := by
    rw [Nat.le_div_iff_mul_le (Nat.two_pow_pos _), ← Nat.pow_add]
    exact h
  omega

section
variable (f : Format)
structure Format.Ok : Prop where
  neg : f.leastPlace ≤ 0
  two : 2 ≤ f.exponentBits

theorem read_word (neg : Bool) {r : Nat} (h : r < f.signWeight) : f.read (f.word neg r) =
    (if r < f.binade then .number neg r f.leastPlace
    else if r < f.infRung then .number neg (f.binade + r % f.binade) (f.leastPlace + (r / f.binade - 1 : Nat))
    else if r = f.infRung then .infinity neg
    else .nan neg (r - f.infRung)) := by
  have hp : 0 < f.signWeight := by unfold Format.signWeight; exact Nat.two_pow_pos _
  have h1 : f.word neg r % f.signWeight = r := by
    unfold Format.word
    split
    · rw [Nat.add_mod_left, Nat.mod_eq_of_lt h]
    · exact Nat.mod_eq_of_lt h
  have h2 : (f.word neg r / f.signWeight % 2 == 1) = neg := by
    unfold Format.word
    split
    · rename_i hn
      rw [Nat.add_div_left _ hp, Nat.div_eq_of_lt h, hn]; rfl
    · rename_i hn
      rw [Nat.div_eq_of_lt h]; simp at hn; rw [hn]; rfl
  unfold Format.read
  simp only [h1, h2]

theorem log2_of {n k : Nat} (h1 : 2 ^ k ≤ n) (h2 : n < 2 ^ (k + 1)) : n.log2 = k := by
  have hn : n ≠ 0 := by have := Nat.two_pow_pos k; omega
  have a := (Nat.le_log2 hn).2 h1
  have b := (Nat.log2_lt hn).2 h2
  omega

/-- a rung's datum -/
theorem rung_datum (neg : Bool) {r : Nat} (h : r ≤ f.infRung) : 
    (r < f.binade ∧ f.read (f.word neg r) = .number neg r f.leastPlace) ∨
    (f.binade ≤ r ∧ r < f.infRung ∧ ∃ m, m.log2 = f.fractionBits ∧ m ≠ 0 ∧ f.read (f.word neg r) = .number neg m (f.leastPlace + (r / f.binade : Nat) - 1)) ∨
    (r = f.infRung ∧ f.binade ≤ r ∧ f.read (f.word neg r) = .infinity neg) ∨ (r = f.infRung ∧ r < f.binade) := by
  have hb : 0 < f.binade := by unfold Format.binade; exact Nat.two_pow_pos _
  rw [read_word f neg (Nat.lt_of_le_of_lt h f.infRung_lt)]
  by_cases h1 : r < f.binade
  · exact .inl ⟨h1, by rw [if_pos h1]⟩
  · by_cases h2 : r < f.infRung
    · refine .inr (.inl ⟨by omega, h2, f.binade + r % f.binade, ?_, by omega, ?_⟩)
      · have := Nat.mod_lt r hb
        apply log2_of
        · show f.binade ≤ _; omega
        · show _ < 2 ^ (f.fractionBits + 1)
          rw [Nat.pow_succ]
          have : f.binade = 2 ^ f.fractionBits := rfl
          omega
      · rw [if_neg h1, if_pos h2]
        have : 1 ≤ r / f.binade := (Nat.le_div_iff_mul_le hb).2 (by omega)
        congr 1
        omega
    · have h3 : r = f.infRung := by omega
      exact .inr (.inr (.inl ⟨h3, by omega, by rw [if_neg h1, if_neg h2, if_pos h3]⟩))

theorem nearest_rung (neg : Bool) {m : Nat} (hm : m ≠ 0) (p : Int) : ∃ (last : Int) (kept : Nat), f.nearest neg m p = f.word neg (min ((last - f.leastPlace).toNat * f.binade + kept) f.infRung) ∧
    last = max (p + m.log2 - f.fractionBits) f.leastPlace ∧ kept ≤ 2 ^ (f.fractionBits + 1) ∧ (p + m.log2 - f.fractionBits ≥ f.leastPlace → 2 ^ f.fractionBits ≤ kept) := by
  unfold Format.nearest
  rw [if_neg hm]
  refine ⟨_, _, rfl, rfl, ?_, ?_⟩
  · apply cut_le_pow
    rw [Nat.shiftLeft_eq]
    have := lt_pow_log2 m
    refine Nat.lt_of_lt_of_le (Nat.mul_lt_mul_of_pos_right this (Nat.two_pow_pos _)) ?_
    rw [← Nat.pow_add]
    apply Nat.pow_le_pow_right (by decide)
    omega
  · intro hge
    apply cut_ge_pow
    rw [Nat.shiftLeft_eq]
    refine Nat.le_trans ?_ (Nat.mul_le_mul_right _ (pow_log2_le hm))
    rw [← Nat.pow_add]
    apply Nat.pow_le_pow_right (by decide)
    omega

/-- what is written of a number less than '2 ^ e' is at most '2 ^ e' -/
theorem write_bd {e : Int} {s : Bool} {m : Nat} {p : Int} (h : BdD e (.number s m p)) (h1 : f.leastPlace + f.fractionBits < e) (h2 : e + 1 - f.fractionBits - f.leastPlace ≤ 2 ^ f.exponentBits - 2) : BdD (e + 1) (f.read (f.write (.number s m p))) := by
  have hb : 0 < f.binade := by unfold Format.binade; exact Nat.two_pow_pos _
  have hinf : f.infRung = (2 ^ f.exponentBits - 1) * f.binade := rfl
  have hp2 : 0 < 2 ^ f.exponentBits := Nat.two_pow_pos _
  have h2' : e + 1 - f.fractionBits - f.leastPlace ≤ ((2 ^ f.exponentBits : Nat) : Int) - 2 := by simpa using h2
  have small : ∀ r : Nat, r ≤ (e + 1 - f.fractionBits - f.leastPlace).toNat * f.binade → BdD (e + 1) (f.read (f.word s r)) := by
    intro r hr
    have hlt : (e + 1 - f.fractionBits - f.leastPlace).toNat * f.binade < f.infRung := by
      rw [hinf]
      apply Nat.mul_lt_mul_of_pos_right _ hb
      omega
    rcases rung_datum f s (show r ≤ f.infRung by omega) with ⟨a, b⟩ | ⟨a, b, m', c, d, g⟩ | ⟨a, _⟩ | ⟨a, _⟩
    · rw [b]
      by_cases h0 : r = 0
      · exact .inl h0
      · refine .inr ?_
        have : r.log2 < f.fractionBits := (Nat.log2_lt h0).2 a
        omega
    · rw [g]
      refine .inr ?_
      rw [c]
      have : r / f.binade ≤ (e + 1 - f.fractionBits - f.leastPlace).toNat := by
        apply Nat.div_le_of_le_mul
        rw [Nat.mul_comm]; exact hr
      omega
    · omega
    · omega
  by_cases hm : m = 0
  · subst hm
    show BdD _ (f.read (f.nearest s 0 p))
    unfold Format.nearest
    rw [if_pos rfl]
    exact small 0 (Nat.zero_le _)
  · obtain ⟨last, kept, hr, hl, hk, _⟩ := nearest_rung f s hm p
    show BdD _ (f.read (f.nearest s m p))
    rw [hr]
    rcases h with h | h
    · exact absurd h hm
    apply small
    refine Nat.le_trans (Nat.min_le_left ..) ?_
    have e1 : (2 : Nat) ^ (f.fractionBits + 1) = 2 * f.binade := by rw [Nat.pow_succ, Nat.mul_comm]; rfl
    have e2 : (last - f.leastPlace).toNat + 2 ≤ (e + 1 - f.fractionBits - f.leastPlace).toNat := by omega
    calc (last - f.leastPlace).toNat * f.binade + kept ≤ (last - f.leastPlace).toNat * f.binade + 2 * f.binade := by omega
      _ = ((last - f.leastPlace).toNat + 2) * f.binade := by rw [Nat.add_mul]
      _ ≤ _ := Nat.mul_le_mul_right _ e2

/-- what is written of a number of at least '2 ^ e' is at least that -/
theorem write_lo {e : Int} {s : Bool} {m : Nat} {p : Int} (h : LoD e (.number s m p)) (h1 : f.leastPlace + f.fractionBits ≤ e) (he : 2 ≤ f.exponentBits) : LoD e (f.read (f.write (.number s m p))) := by
  obtain ⟨hm, h⟩ := h
  have hb : 0 < f.binade := by unfold Format.binade; exact Nat.two_pow_pos _
  have hinf : f.infRung = (2 ^ f.exponentBits - 1) * f.binade := rfl
  have hp2 : 2 ^ 2 ≤ 2 ^ f.exponentBits := Nat.pow_le_pow_right (by decide) he
  obtain ⟨last, kept, hr, hl, _, hk⟩ := nearest_rung f s hm p
  have hk := hk (by omega)
  show LoD _ (f.read (f.nearest s m p))
  rw [hr]
  have hbi : f.binade ≤ f.infRung := by
    rw [hinf]
    exact Nat.le_mul_of_pos_left _ (by omega)
  have hkb : f.binade ≤ kept := hk
  rcases rung_datum f s (Nat.min_le_right ((last - f.leastPlace).toNat * f.binade + kept) f.infRung) with ⟨a, b⟩ | ⟨a, b, m', c, d, g⟩ | ⟨a, _, g⟩ | ⟨a, g⟩
  · omega
  · rw [g]
    refine ⟨d, ?_⟩
    rw [c]
    have : (last - f.leastPlace).toNat + 1 ≤ min ((last - f.leastPlace).toNat * f.binade + kept) f.infRung / f.binade := by
      rw [Nat.le_div_iff_mul_le hb, Nat.add_mul, Nat.one_mul]
      omega
    omega
  · rw [g]; trivial
  · omega
end
end Go.H

/- Bounds on float64 numbers through the operations. -/
set_option linter.unusedVariables false
namespace Go.H
open Go Ieee

def Bd (e : Int) (x : Option Nat) : Prop := ∀ b, x = some b → BdD e (double.read b)
def Lo (e : Int) (x : Option Nat) : Prop := ∀ b, x = some b → LoD e (double.read b)
def Nn (x : Option Nat) : Prop := ∀ b, x = some b → NnD (double.read b)

theorem bd_none {e : Int} : Bd e none := by intro b h; cases h
theorem lo_none {e : Int} : Lo e none := by intro b h; cases h
theorem nn_none : Nn none := by intro b h; cases h

theorem BdD.mono {e e' : Int} {d : Datum} (h : BdD e d) (he : e ≤ e') : BdD e' d := by
  cases d with
  | number s m p => exact h.imp id (fun h => by omega)
  | infinity _ => exact h
  | nan _ _ => exact h
theorem Bd.mono {e e' : Int} {x : Option Nat} (h : Bd e x) (he : e ≤ e') : Bd e' x := fun b hb => (h b hb).mono he

theorem bd_map {e : Int} {d : Option Datum} (h : ∀ y, d = some y → BdD e y) (h1 : -1022 < e) (h2 : e ≤ 1023) : Bd (e + 1) (d.map double.write) := by
  intro b hb
  obtain ⟨y, hy, rfl⟩ := Option.map_eq_some_iff.1 hb
  have := h y hy
  cases y with
  | number s m p => exact write_bd double this (by show (-1074 : Int) + 52 < e; omega) (by show e + 1 - 52 - (-1074) ≤ 2 ^ 11 - 2; omega)
  | infinity _ => exact absurd this (by intro h; exact h)
  | nan _ _ => exact absurd this (by intro h; exact h)

theorem lo_map {e : Int} {d : Option Datum} (h : ∀ y, d = some y → LoD e y) (h1 : -1022 ≤ e) : Lo e (d.map double.write) := by
  intro b hb
  obtain ⟨y, hy, rfl⟩ := Option.map_eq_some_iff.1 hb
  have := h y hy
  cases y with
  | number s m p => exact write_lo double this (by show (-1074 : Int) + 52 ≤ e; omega) (by decide)
  | infinity s =>
    show LoD e (double.read (double.word s double.infRung))
    rcases rung_datum double s (Nat.le_refl double.infRung) with ⟨a, _⟩ | ⟨_, a, _⟩ | ⟨_, _, g⟩ | ⟨_, a⟩
    · exact absurd a (by decide)
    · omega
    · rw [g]; trivial
    · exact absurd a (by decide)
  | nan _ _ => exact absurd this (by intro h; exact h)

theorem fop_some {op : BinOp} {x y : Option Nat} {r : Nat} (h : fop op .f64 x y = some r) : ∃ a b, x = some a ∧ y = some b ∧ floatBits op .f64 a b = some r := by
  unfold fop at h
  obtain ⟨a, ha, h⟩ := Option.bind_eq_some_iff.1 h
  obtain ⟨b, hb, h⟩ := Option.bind_eq_some_iff.1 h
  exact ⟨a, b, ha, hb, h⟩

theorem natAbs_signed (s : Bool) (m u : Nat) : (signed s m u).natAbs = m * 2 ^ u := by
  unfold signed
  rw [Nat.shiftLeft_eq]
  split <;> omega

theorem scaled {m : Nat} {p e base : Int} (h : m = 0 ∨ (m.log2 : Int) + p < e) (hb : base ≤ p) : m = 0 ∨ (base < e ∧ m * 2 ^ (p - base).toNat < 2 ^ (e - base).toNat) := by
  rcases h with h | h
  · exact .inl h
  · refine .inr ⟨by omega, ?_⟩
    calc m * 2 ^ (p - base).toNat < 2 ^ (m.log2 + 1) * 2 ^ (p - base).toNat := Nat.mul_lt_mul_of_pos_right (lt_pow_log2 m) (Nat.two_pow_pos _)
      _ = 2 ^ (m.log2 + 1 + (p - base).toNat) := (Nat.pow_add ..).symm
      _ ≤ _ := Nat.pow_le_pow_right (by decide) (by omega)

theorem sum_bd {e : Int} {x y z : Datum} (hx : BdD e x) (hy : BdD e y) (h : x.sum y = some z) : BdD (e + 1) z := by
  cases x with
  | infinity _ => exact absurd hx (by intro h; exact h)
  | nan _ _ => exact absurd hx (by intro h; exact h)
  | number s m i =>
    cases y with
    | infinity _ => exact absurd hy (by intro h; exact h)
    | nan _ _ => exact absurd hy (by intro h; exact h)
    | number t n j =>
      simp only [Datum.sum, Option.some.injEq] at h
      subst h
      have h1 := scaled hx (Int.min_le_left i j)
      have h2 := scaled hy (Int.min_le_right i j)
      have hn : (signed s m (i - min i j).toNat + signed t n (j - min i j).toNat).natAbs ≤ m * 2 ^ (i - min i j).toNat + n * 2 ^ (j - min i j).toNat := by
        have := Int.natAbs_add_le (signed s m (i - min i j).toNat) (signed t n (j - min i j).toNat)
        rwa [natAbs_signed, natAbs_signed] at this
      generalize (signed s m (i - min i j).toNat + signed t n (j - min i j).toNat) = T at *
      by_cases h0 : T.natAbs = 0
      · exact .inl h0
      refine .inr ?_
      have hp := Nat.two_pow_pos (e - min i j).toNat
      have hlt : min i j < e := by
        rcases h1 with h1 | ⟨h1, _⟩
        · rcases h2 with h2 | ⟨h2, _⟩
          · subst h1; subst h2; simp at hn; omega
          · exact h2
        · exact h1
      have hA : m * 2 ^ (i - min i j).toNat < 2 ^ (e - min i j).toNat := by
        rcases h1 with h1 | ⟨_, h1⟩
        · subst h1; simpa using hp
        · exact h1
      have hB : n * 2 ^ (j - min i j).toNat < 2 ^ (e - min i j).toNat := by
        rcases h2 with h2 | ⟨_, h2⟩
        · subst h2; simpa using hp
        · exact h2
      have : T.natAbs.log2 < (e - min i j).toNat + 1 := by
        rw [Nat.log2_lt h0, Nat.pow_succ]
        omega
      omega

theorem opposite_bd {e : Int} {x : Datum} (h : BdD e x) : BdD e x.opposite := by
  cases x <;> exact h

theorem Bd.add {e : Int} {x y : Option Nat} (hx : Bd e x) (hy : Bd e y) (h1 : -1023 < e) (h2 : e ≤ 1022) : Bd (e + 2) (fop .add .f64 x y) := by
  cases x with
  | none => exact bd_none
  | some a => cases y with
    | none => exact bd_none
    | some b =>
      have := bd_map (d := (double.read a).sum (double.read b)) (e := e + 1) (fun z hz => sum_bd (hx a rfl) (hy b rfl) hz) (by omega) (by omega)
      rw [show e + 1 + 1 = e + 2 by omega] at this
      exact this
theorem Bd.sub {e : Int} {x y : Option Nat} (hx : Bd e x) (hy : Bd e y) (h1 : -1023 < e) (h2 : e ≤ 1022) : Bd (e + 2) (fop .sub .f64 x y) := by
  cases x with
  | none => exact bd_none
  | some a => cases y with
    | none => exact bd_none
    | some b =>
      have := bd_map (d := (double.read a).sum (double.read b).opposite) (e := e + 1) (fun z hz => sum_bd (hx a rfl) (opposite_bd (hy b rfl)) hz) (by omega) (by omega)
      rw [show e + 1 + 1 = e + 2 by omega] at this
      exact this

theorem log2_mul_lt {m n : Nat} (hm : m ≠ 0) (hn : n ≠ 0) : (m * n).log2 ≤ m.log2 + n.log2 + 1 := by
  have h0 : m * n ≠ 0 := Nat.mul_ne_zero hm hn
  have : (m * n).log2 < m.log2 + n.log2 + 2 := by
    rw [Nat.log2_lt h0]
    calc m * n < 2 ^ (m.log2 + 1) * 2 ^ (n.log2 + 1) := Nat.mul_lt_mul'' (lt_pow_log2 m) (lt_pow_log2 n)
      _ = 2 ^ (m.log2 + n.log2 + 2) := by rw [← Nat.pow_add]; congr 1; omega
  omega

theorem product_bd {d e : Int} {x y z : Datum} (hx : BdD d x) (hy : BdD e y) (h : x.product y = some z) : BdD (d + e) z := by
  cases x with
  | infinity _ => exact absurd hx (by intro h; exact h)
  | nan _ _ => exact absurd hx (by intro h; exact h)
  | number s m i =>
    cases y with
    | infinity _ => exact absurd hy (by intro h; exact h)
    | nan _ _ => exact absurd hy (by intro h; exact h)
    | number t n j =>
      simp only [Datum.product, Option.some.injEq] at h
      subst h
      rcases hx with hx | hx
      · exact .inl (by rw [hx, Nat.zero_mul])
      · rcases hy with hy | hy
        · exact .inl (by rw [hy, Nat.mul_zero])
        · by_cases hm : m = 0
          · exact .inl (by rw [hm, Nat.zero_mul])
          · by_cases hn : n = 0
            · exact .inl (by rw [hn, Nat.mul_zero])
            · refine .inr ?_
              have := log2_mul_lt hm hn
              omega

theorem Bd.mul {d e : Int} {x y : Option Nat} (hx : Bd d x) (hy : Bd e y) (h1 : -1022 < d + e) (h2 : d + e ≤ 1023) : Bd (d + e + 1) (fop .mul .f64 x y) := by
  cases x with
  | none => exact bd_none
  | some a => cases y with
    | none => exact bd_none
    | some b => exact bd_map (d := (double.read a).product (double.read b)) (fun z hz => product_bd (hx a rfl) (hy b rfl) hz) h1 h2

/-- a quotient's size, by those of its parts -/
theorem quotient_log {m n : Nat} (hm : m ≠ 0) (hn : n ≠ 0) (digits : Nat) (i j : Int) :
    ((2 * ((m <<< (digits + n.log2 - m.log2)) / n) + ((m <<< (digits + n.log2 - m.log2)) % n != 0).toNat).log2 : Int) + (i - j - (digits + n.log2 - m.log2 : Nat) - 1) ≤ (m.log2 + i) - (n.log2 + j) ∨ (2 * ((m <<< (digits + n.log2 - m.log2)) / n) + ((m <<< (digits + n.log2 - m.log2)) % n != 0).toNat) = 0 := by
  generalize hk : digits + n.log2 - m.log2 = k
  have hbt : ∀ b : Bool, b.toNat ≤ 1 := by decide
  have hb := hbt ((m <<< k) % n != 0)
  generalize ((m <<< k) % n != 0).toNat = c at *
  have hq : (m <<< k) / n < 2 ^ (m.log2 + 1 + k - n.log2) := by
    rw [Nat.div_lt_iff_lt_mul (Nat.pos_of_ne_zero hn), Nat.shiftLeft_eq]
    calc m * 2 ^ k < 2 ^ (m.log2 + 1) * 2 ^ k := Nat.mul_lt_mul_of_pos_right (lt_pow_log2 m) (Nat.two_pow_pos _)
      _ = 2 ^ (m.log2 + 1 + k) := (Nat.pow_add ..).symm
      _ = 2 ^ (m.log2 + 1 + k - n.log2) * 2 ^ n.log2 := by rw [← Nat.pow_add]; congr 1; omega
      _ ≤ _ := Nat.mul_le_mul_left _ (pow_log2_le hn)
  generalize (m <<< k) / n = q at *
  by_cases h0 : 2 * q + c = 0
  · exact .inr h0
  · left
    have : (2 * q + c).log2 < m.log2 + 1 + k - n.log2 + 1 := by
      rw [Nat.log2_lt h0, Nat.pow_succ]
      omega
    omega

theorem quotient_bd {d e : Int} {digits : Nat} {x y z : Datum} (hx : BdD d x) (hy : LoD e y) (h : x.quotient digits y = some z) : BdD (d - e) z := by
  cases x with
  | infinity _ => exact absurd hx (by intro h; exact h)
  | nan _ _ => exact absurd hx (by intro h; exact h)
  | number s m i =>
    cases y with
    | infinity _ => 
      simp only [Datum.quotient, Option.some.injEq] at h
      subst h
      exact .inl rfl
    | nan _ _ => exact absurd hy (by intro h; exact h)
    | number t n j =>
      obtain ⟨hn, hy⟩ := hy
      simp only [Datum.quotient, if_neg hn, Option.some.injEq] at h
      subst h
      by_cases hm : m = 0
      · refine .inl ?_
        subst hm
        simp
      · rcases hx with hx | hx
        · exact absurd hx hm
        · rcases quotient_log hm hn digits i j with h | h
          · exact .inr (by omega)
          · exact .inl h

theorem Bd.quo {d e : Int} {x y : Option Nat} (hx : Bd d x) (hy : Lo e y) (h1 : -1022 < d - e) (h2 : d - e ≤ 1023) : Bd (d - e + 1) (fop .quo .f64 x y) := by
  cases x with
  | none => exact bd_none
  | some a => cases y with
    | none => exact bd_none
    | some b => exact bd_map (d := (double.read a).quotient 54 (double.read b)) (fun z hz => quotient_bd (hx a rfl) (hy b rfl) hz) h1 h2

/-- the lesser by the greater -/
theorem ratio {x y z : Datum} {digits : Nat} (hx : NnD x) (hy : NnD y) (ho : x.order y ≠ some .gt) (h : x.quotient digits y = some z) : BdD 1 z := by
  cases x with
  | nan _ _ => cases h
  | infinity s =>
    simp only [NnD] at hx
    subst hx
    cases y with
    | nan _ _ => exact absurd hy (by intro h; exact h)
    | infinity t => cases h
    | number t n j => exact absurd rfl ho
  | number s m i =>
    cases y with
    | nan _ _ => exact absurd hy (by intro h; exact h)
    | infinity t =>
      simp only [Datum.quotient, Option.some.injEq] at h
      subst h
      exact .inl rfl
    | number t n j =>
      have sg : ∀ (s : Bool) (m u : Nat), (s = false ∨ m = 0) → signed s m u = ((m * 2 ^ u : Nat) : Int) := by
        intro s m u h
        unfold signed
        rw [Nat.shiftLeft_eq]
        rcases h with h | h <;> subst h <;> simp
      have hle : m * 2 ^ (i - min i j).toNat ≤ n * 2 ^ (j - min i j).toNat := by
        simp only [Datum.order, sg _ _ _ hx, sg _ _ _ hy] at ho
        refine Nat.le_of_not_lt fun hlt => ho ?_
        rw [Option.some.injEq, Int.compare_eq_gt]
        omega
      by_cases hm : m = 0
      · subst hm
        by_cases hn : n = 0
        · subst hn
          simp [Datum.quotient] at h
        · simp only [Datum.quotient, if_neg hn, Option.some.injEq] at h
          subst h
          exact .inl (by simp)
      · have hn : n ≠ 0 := by
          intro hn
          subst hn
          have := Nat.mul_pos (Nat.pos_of_ne_zero hm) (Nat.two_pow_pos (i - min i j).toNat)
          omega
        simp only [Datum.quotient, if_neg hn, Option.some.injEq] at h
        subst h
        have hl : (m.log2 : Int) + i ≤ n.log2 + j := by
          have h1 : 2 ^ (m.log2 + (i - min i j).toNat) < 2 ^ (n.log2 + 1 + (j - min i j).toNat) := by
            rw [Nat.pow_add, Nat.pow_add]
            refine Nat.lt_of_le_of_lt (Nat.mul_le_mul_right _ (pow_log2_le hm)) (Nat.lt_of_le_of_lt hle ?_)
            exact Nat.mul_lt_mul_of_pos_right (lt_pow_log2 n) (Nat.two_pow_pos _)
          have := (Nat.pow_lt_pow_iff_right (by decide : 1 < 2)).1 h1
          omega
        rcases quotient_log hm hn digits i j with h | h
        · exact .inr (by omega)
        · exact .inl h

theorem not_gt {x y : Nat} (h : fcmp .gtr .f64 (some x) (some y) = false) : (double.read x).order (double.read y) ≠ some .gt := by
  intro ho
  have : fcmp .gtr .f64 (some x) (some y) = true := by
    show (double.order x y == some .gt) = true
    show ((double.read x).order (double.read y) == some .gt) = true
    rw [ho]; rfl
  rw [this] at h; cases h

theorem is_gt {x y : Nat} (h : fcmp .gtr .f64 (some x) (some y) = true) : (double.read y).order (double.read x) ≠ some .gt := by
  have h' : ((double.read x).order (double.read y) == some .gt) = true := h
  have h'' : (double.read x).order (double.read y) = some .gt := by simpa using h'
  intro ho
  revert h'' ho
  cases double.read x with
  | nan _ _ => intro h; cases h
  | infinity s => cases double.read y with
    | nan _ _ => intro h; cases h
    | infinity t => cases s <;> cases t <;> decide
    | number t n j => cases s <;> simp [Datum.order]
  | number s m i => cases double.read y with
    | nan _ _ => intro h; cases h
    | infinity t => cases t <;> simp [Datum.order]
    | number t n j =>
      simp only [Datum.order, Option.some.injEq]
      rw [Int.min_comm j i]
      generalize signed s m (i - min i j).toNat = A
      generalize signed t n (j - min i j).toNat = B
      intro h1 h2
      rw [Int.compare_eq_gt] at h1 h2
      omega

/-- the quotient of the lesser by the greater -/
theorem Bd.ratio {x y : Option Nat} (hx : Nn x) (hy : Nn y) : Bd 2 (if fcmp .gtr .f64 x y = true then fop .quo .f64 y x else fop .quo .f64 x y) := by
  cases x with
  | none => split <;> (intro b hb; obtain ⟨_, _, h1, h2, _⟩ := fop_some hb; first | (cases h1; done) | (cases h2; done))
  | some a => cases y with
    | none => split <;> (intro b hb; obtain ⟨_, _, h1, h2, _⟩ := fop_some hb; first | (cases h1; done) | (cases h2; done))
    | some b =>
      split
      · rename_i hc
        exact bd_map (d := (double.read b).quotient 54 (double.read a)) (e := 1) (fun z hz => Go.H.ratio (hy b rfl) (hx a rfl) (is_gt hc) hz) (by omega) (by omega)
      · rename_i hc
        exact bd_map (d := (double.read a).quotient 54 (double.read b)) (e := 1) (fun z hz => Go.H.ratio (hx a rfl) (hy b rfl) (not_gt (by simpa using hc)) hz) (by omega) (by omega)

theorem Nn.sqrt {x : Option Nat} : Nn (fsqrt x) := by
  intro b hb
  unfold fsqrt at hb
  obtain ⟨a, rfl, h⟩ := Option.bind_eq_some_iff.1 hb
  have h : ((double.read a).root 54).map double.write = some b := h
  obtain ⟨d, hd, rfl⟩ := Option.map_eq_some_iff.1 h
  have key : ∀ r, r ≤ double.infRung → NnD (double.read (double.word false r)) := by
    intro r hr
    rcases rung_datum double false hr with ⟨_, g⟩ | ⟨_, _, m, _, _, g⟩ | ⟨_, _, g⟩ | ⟨rfl, a⟩
    · rw [g]; exact .inl rfl
    · rw [g]; exact .inl rfl
    · rw [g]; exact rfl
    · exact absurd a (by decide)
  have zero : ∀ s i, NnD (double.read (double.write (.number s 0 i))) := by
    intro s i
    show NnD (double.read (double.nearest s 0 i))
    unfold Format.nearest
    rw [if_pos rfl]
    rcases rung_datum double s (Nat.zero_le _) with ⟨_, g⟩ | ⟨a, _⟩ | ⟨a, _⟩ | ⟨a, _⟩
    · rw [g]; exact .inr rfl
    · exact absurd a (by decide)
    · exact absurd a (by decide)
    · exact absurd a (by decide)
  have wr : ∀ m p, NnD (double.read (double.write (.number false m p))) := by
    intro m p
    show NnD (double.read (double.nearest false m p))
    unfold Format.nearest
    split
    · exact key 0 (Nat.zero_le _)
    · exact key _ (Nat.min_le_right ..)
  revert hd
  cases double.read a with
  | nan _ _ => intro h; cases h
  | infinity s => 
    cases s
    · intro h; cases h; exact key _ (Nat.le_refl _)
    · intro h; cases h
  | number s m i =>
    unfold Datum.root
    dsimp only
    split
    · rename_i h0
      intro h; cases h
      subst h0
      exact zero s i
    · split
      · intro h; cases h
      · intro h; cases h
        exact wr _ _

theorem sum_lo {d : Datum} {m : Nat} {i : Int} {z : Datum} (hm : m ≠ 0) (hd : NnD d) (h : (Datum.number false m i).sum d = some z) : LoD ((m.log2 : Int) + i) z := by
  cases d with
  | nan _ _ => cases h
  | infinity s => cases h; trivial
  | number t n j =>
    simp only [Datum.sum, Option.some.injEq] at h
    subst h
    have sg : ∀ (s : Bool) (m u : Nat), (s = false ∨ m = 0) → signed s m u = ((m * 2 ^ u : Nat) : Int) := by
      intro s m u h
      unfold signed
      rw [Nat.shiftLeft_eq]
      rcases h with h | h <;> subst h <;> simp
    rw [sg _ _ _ hd, sg false m _ (.inl rfl)]
    have : ((m * 2 ^ (i - min i j).toNat : Nat) + (n * 2 ^ (j - min i j).toNat : Nat) : Int).natAbs = m * 2 ^ (i - min i j).toNat + n * 2 ^ (j - min i j).toNat := by omega
    rw [this]
    have hpos := Nat.mul_pos (Nat.pos_of_ne_zero hm) (Nat.two_pow_pos (i - min i j).toNat)
    have h0 : m * 2 ^ (i - min i j).toNat + n * 2 ^ (j - min i j).toNat ≠ 0 := by omega
    refine ⟨h0, ?_⟩
    have : m.log2 + (i - min i j).toNat ≤ (m * 2 ^ (i - min i j).toNat + n * 2 ^ (j - min i j).toNat).log2 := by
      rw [Nat.le_log2 h0, Nat.pow_add]
      have := Nat.mul_le_mul_right (2 ^ (i - min i j).toNat) (pow_log2_le hm)
      omega
    omega

/-- one and more -/
theorem Lo.one_add {x : Option Nat} (hx : Nn x) : Lo 0 (fop .add .f64 (some 4607182418800017408) x) := by
  cases x with
  | none => exact lo_none
  | some a =>
    have h1 : double.read 4607182418800017408 = .number false 4503599627370496 (-52) := by decide
    refine lo_map (d := (double.read 4607182418800017408).sum (double.read a)) (fun z hz => ?_) (by omega)
    rw [h1] at hz
    have := sum_lo (by decide) (hx a rfl) hz
    rwa [show ((4503599627370496 : Nat).log2 : Int) + -52 = 0 by decide] at this

theorem read_abs (b : Nat) : double.read (b % 2 ^ 63) = (match double.read b with | .number _ m p => .number false m p | .infinity _ => .infinity false | .nan _ t => .nan false t) := by
  have hs : double.signWeight = 2 ^ 63 := by decide
  unfold Format.read
  rw [hs, Nat.mod_mod, Nat.div_eq_of_lt (Nat.mod_lt b (by decide))]
  dsimp only
  split
  · rfl
  · split
    · rfl
    · split <;> rfl

/-- a class: a not-a-number has no bits -/
def Cl (x : Option Nat) : Prop := ∀ b, x = some b → (double.read b).isNaN = false

theorem Nn.abs {x : Option Nat} (h : Cl x) : Nn (fabs x) := by
  intro b hb
  unfold fabs at hb
  obtain ⟨a, rfl, rfl⟩ := Option.map_eq_some_iff.1 hb
  have := h a rfl
  rw [read_abs]
  revert this
  cases double.read a with
  | nan _ _ => intro h; cases h
  | infinity _ => intro _; exact rfl
  | number _ _ _ => intro _; exact .inl rfl

theorem Bd.neg {e : Int} {x : Option Nat} (h : Bd e x) : Bd e (fneg .f64 x) := by
  intro b hb
  unfold fneg at hb
  obtain ⟨a, rfl, rfl⟩ := Option.map_eq_some_iff.1 hb
  have := h a rfl
  have e1 : (Op.negFloat .f64 a) % 2 ^ 63 = a % 2 ^ 63 := by
    show (a ^^^ 2 ^ (11 + 52)) % 2 ^ 63 = _
    rw [Nat.xor_mod_two_pow, show 2 ^ (11 + 52) % 2 ^ 63 = 0 by decide, Nat.xor_zero]
  have key : ∀ b, BdD e (double.read (b % 2 ^ 63)) ↔ BdD e (double.read b) := by
    intro b
    rw [read_abs]
    cases double.read b <;> exact Iff.rfl
  rw [← key, e1, key]
  exact this

theorem Bd.fcv {x : Option Nat} (h : Bd 127 x) : ∃ y, fcv .f64 .f32 x = some y := by
  cases x with
  | none => exact ⟨none, rfl⟩
  | some b =>
    have hb := h b rfl
    revert hb
    show BdD 127 (double.read b) → ∃ y, (floatToFloatBits .f64 b .f32).map some = some y
    unfold floatToFloatBits
    rw [if_neg (by decide)]
    show BdD 127 (double.read b) → ∃ y, (match double.read b with | .nan _ _ => none | .infinity s => some (FloatKind.f32.encode (.infinity s)) | .number s m e => if (FloatKind.f32.decode (FloatKind.f32.encode (.number s m e))).isInfinity then none else some (FloatKind.f32.encode (.number s m e))).map some = some y
    cases double.read b with
    | nan _ _ => intro h; exact absurd h (by intro h; exact h)
    | infinity _ => intro h; exact absurd h (by intro h; exact h)
    | number s m p =>
      intro hb
      dsimp only
      have := write_bd single hb (by decide) (by decide)
      have hi : (FloatKind.f32.decode (FloatKind.f32.encode (.number s m p))).isInfinity = false := by
        show (single.read (single.write (.number s m p))).isInfinity = false
        revert this
        cases single.read (single.write (.number s m p)) with
        | infinity _ => intro h; exact absurd h (by intro h; exact h)
        | number _ _ _ => intro _; rfl
        | nan _ _ => intro _; rfl
      rw [hi]
      exact ⟨_, rfl⟩
end Go.H

/- Widening, roots, numbers against themselves. -/
set_option linter.unusedVariables false
namespace Go.H
open Go Ieee

/-! ### roots -/
theorem rootFrom_sq (n : Nat) : ∀ (todo root : Nat), root * root ≤ n → Datum.rootFrom n todo root * Datum.rootFrom n todo root ≤ n
  | 0, root, h => h
  | todo + 1, root, h => by
    unfold Datum.rootFrom
    dsimp only
    split
    · rename_i h1; exact rootFrom_sq n todo _ h1
    · exact rootFrom_sq n todo _ h

/-- finite and less than '2 ^ e', or an infinity -/
def BiD (e : Int) : Datum → Prop
  | .number _ m p => m = 0 ∨ (m.log2 : Int) + p < e
  | .infinity _ => True
  | _ => False
def Bi (e : Int) (x : Option Nat) : Prop := ∀ b, x = some b → BiD e (double.read b)

theorem log2_sq {w n : Nat} (hw : w ≠ 0) (h : w * w ≤ n) : 2 * w.log2 ≤ n.log2 := by
  have hn : n ≠ 0 := by
    have := Nat.mul_pos (Nat.pos_of_ne_zero hw) (Nat.pos_of_ne_zero hw)
    omega
  rw [Nat.le_log2 hn, Nat.two_mul, Nat.pow_add]
  exact Nat.le_trans (Nat.mul_le_mul (pow_log2_le hw) (pow_log2_le hw)) h

theorem root_bi {e : Int} {x z : Datum} {digits : Nat} (hx : BiD (2 * e) x) (he : 0 ≤ e) (h : x.root digits = some z) : BiD e z := by
  cases x with
  | nan _ _ => cases h
  | infinity s =>
    cases s
    · cases h; trivial
    · cases h
  | number s m i =>
    unfold Datum.root at h
    dsimp only at h
    split at h
    · rename_i h0
      cases h
      exact .inl h0
    · split at h
      · cases h
      · rename_i hm _
        rcases hx with hx | hx
        · exact absurd hx hm
        cases h
        generalize hmore : 2 * digits - m.log2 + ((i - ((2 * digits - m.log2 : Nat) : Int)) % 2).toNat = more
        have hev : (i - (more : Int)) % 2 = 0 := by omega
        have hsq := rootFrom_sq (m <<< more) ((m <<< more).log2 / 2 + 1) 0 (Nat.zero_le _)
        generalize Datum.rootFrom (m <<< more) ((m <<< more).log2 / 2 + 1) 0 = w at *
        have hbt : ∀ b : Bool, b.toNat ≤ 1 := by decide
        have hb := hbt (w * w != m <<< more)
        generalize (w * w != m <<< more).toNat = c at *
        have hlog : (m <<< more).log2 = m.log2 + more := by
          rw [Nat.shiftLeft_eq]
          apply log2_of
          · rw [Nat.pow_add]; exact Nat.mul_le_mul_right _ (pow_log2_le hm)
          · have : m * 2 ^ more < 2 ^ (m.log2 + 1) * 2 ^ more := Nat.mul_lt_mul_of_pos_right (lt_pow_log2 m) (Nat.two_pow_pos _)
            rw [← Nat.pow_add] at this
            rwa [show m.log2 + more + 1 = m.log2 + 1 + more by omega]
        by_cases hw : w = 0
        · subst hw
          by_cases hc : c = 0
          · exact .inl (by omega)
          · have : c = 1 := by omega
            subst this
            refine .inr ?_
            have : (2 * 0 + 1 : Nat).log2 = 0 := by decide
            rw [this]
            have : 0 ≤ m.log2 := Nat.zero_le _
            omega
        · have h2 := log2_sq hw hsq
          rw [hlog] at h2
          refine .inr ?_
          have h3 : (2 * w + c).log2 < w.log2 + 2 := by
            rw [Nat.log2_lt (by omega), Nat.pow_add]
            have := lt_pow_log2 w
            rw [Nat.pow_succ] at this
            omega
          omega

theorem bi_map {e : Int} {d : Option Datum} (h : ∀ y, d = some y → BiD e y) (h1 : -1022 < e) (h2 : e ≤ 1023) : Bi (e + 1) (d.map double.write) := by
  intro b hb
  obtain ⟨y, hy, rfl⟩ := Option.map_eq_some_iff.1 hb
  have := h y hy
  cases y with
  | number s m p =>
    have := write_bd double (e := e) (s := s) (m := m) (p := p) this (by show (-1074 : Int) + 52 < e; omega) (by show e + 1 - 52 - (-1074) ≤ 2 ^ 11 - 2; omega)
    revert this
    cases double.read (double.write (.number s m p)) with
    | number _ _ _ => exact id
    | infinity _ => intro _; trivial
    | nan _ _ => exact id
  | infinity s =>
    show BiD _ (double.read (double.word s double.infRung))
    rcases rung_datum double s (Nat.le_refl double.infRung) with ⟨a, _⟩ | ⟨_, a, _⟩ | ⟨_, _, g⟩ | ⟨_, a⟩
    · exact absurd a (by decide)
    · omega
    · rw [g]; trivial
    · exact absurd a (by decide)
  | nan _ _ => exact absurd this (by intro h; exact h)

theorem Bi.sqrt {e : Int} {x : Option Nat} (h : Bi (2 * e) x) (he : 0 ≤ e) (h2 : e ≤ 1023) : Bi (e + 1) (fsqrt x) := by
  cases x with
  | none => intro b hb; cases hb
  | some a => exact bi_map (d := (double.read a).root 54) (fun z hz => root_bi (h a rfl) he hz) (by omega) h2

theorem Bi.fcv {x : Option Nat} (h : Bi 127 x) : ∃ y, Go.H.fcv .f64 .f32 x = some y := by
  cases x with
  | none => exact ⟨none, rfl⟩
  | some b =>
    cases hr : double.read b with
    | number s m p =>
      refine Bd.fcv fun b' hb' => ?_
      cases hb'
      have := h b rfl
      rw [hr] at this ⊢
      exact this
    | infinity s =>
      show ∃ y, (floatToFloatBits .f64 b .f32).map some = some y
      unfold floatToFloatBits
      rw [if_neg (by decide)]
      have : FloatKind.f64.decode b = .infinity s := hr
      rw [this]
      exact ⟨_, rfl⟩
    | nan s t =>
      have := h b rfl
      rw [hr] at this
      exact absurd this (by intro h; exact h)

/-! ### widening -/
theorem wid_none : wid none = none := rfl

theorem wid_cases (b : Nat) : (∃ s m p, single.read b = .number s m p ∧ m < 2 ^ 24 ∧ p ≤ 104 ∧ -149 ≤ p ∧ wid (some b) = some (double.write (.number s m p))) ∨ (∃ s, single.read b = .infinity s ∧ wid (some b) = some (double.write (.infinity s))) ∨ (∃ s t, single.read b = .nan s t ∧ wid (some b) = none) := by
  have hw : wid (some b) = ((floatToFloatBits .f32 b .f64).map some).getD none := rfl
  cases hd : single.read b with
  | number s m p =>
    obtain ⟨h1, h2⟩ := single_read hd
    refine .inl ⟨s, m, p, rfl, h1, h2, ?_, ?_⟩
    · revert hd
      unfold Format.read
      have : single.leastPlace = -149 := by decide
      rw [this]
      dsimp only
      split
      · intro h; cases h; omega
      · split
        · intro h; cases h; omega
        · split <;> intro h <;> cases h
    · rw [hw]
      have hd' : FloatKind.f32.decode b = .number s m p := hd
      have : (FloatKind.f64.decode (FloatKind.f64.encode (.number s m p))).isInfinity = false := double_finite s m p h1 h2
      have e1 : floatToFloatBits .f32 b .f64 = some (double.write (.number s m p)) := by
        unfold floatToFloatBits
        rw [if_neg (by decide), hd']
        simp only [this]
        rfl
      rw [e1]; rfl
  | infinity s =>
    refine .inr (.inl ⟨s, rfl, ?_⟩)
    rw [hw]
    have hd' : FloatKind.f32.decode b = .infinity s := hd
    have e1 : floatToFloatBits .f32 b .f64 = some (double.write (.infinity s)) := by
      unfold floatToFloatBits
      rw [if_neg (by decide), hd']
      rfl
    rw [e1]; rfl
  | nan s t =>
    refine .inr (.inr ⟨s, t, rfl, ?_⟩)
    rw [hw]
    have hd' : FloatKind.f32.decode b = .nan s t := hd
    have e1 : floatToFloatBits .f32 b .f64 = none := by
      unfold floatToFloatBits
      rw [if_neg (by decide), hd']
    rw [e1]; rfl

/-- what a word reads as keeps sign and nought -/
theorem read_write_zero (s : Bool) (p : Int) : double.read (double.write (.number s 0 p)) = .number s 0 (-1074) := by
  show double.read (double.nearest s 0 p) = _
  unfold Format.nearest
  rw [if_pos rfl]
  rcases rung_datum double s (Nat.zero_le _) with ⟨_, g⟩ | ⟨a, _⟩ | ⟨a, _⟩ | ⟨a, _⟩
  · exact g
  · exact absurd a (by decide)
  · exact absurd a (by decide)
  · exact absurd a (by decide)

theorem read_nearest_sign (s : Bool) (m : Nat) (p : Int) : (double.read (double.nearest s m p)).neg = s ∧ (double.read (double.nearest s m p)).isNaN = false := by
  have key : ∀ r, r ≤ double.infRung → (double.read (double.word s r)).neg = s ∧ (double.read (double.word s r)).isNaN = false := by
    intro r hr
    rcases rung_datum double s hr with ⟨_, g⟩ | ⟨_, _, m, _, _, g⟩ | ⟨_, _, g⟩ | ⟨rfl, a⟩
    · rw [g]; exact ⟨rfl, rfl⟩
    · rw [g]; exact ⟨rfl, rfl⟩
    · rw [g]; exact ⟨rfl, rfl⟩
    · exact absurd a (by decide)
  unfold Format.nearest
  split
  · exact key 0 (Nat.zero_le _)
  · exact key _ (Nat.min_le_right ..)

theorem read_write_inf (s : Bool) : double.read (double.write (.infinity s)) = .infinity s := by
  show double.read (double.word s double.infRung) = _
  rcases rung_datum double s (Nat.le_refl double.infRung) with ⟨a, _⟩ | ⟨_, a, _⟩ | ⟨_, _, g⟩ | ⟨_, a⟩
  · exact absurd a (by decide)
  · omega
  · exact g
  · exact absurd a (by decide)

/-- widened: a number of the same sign, nought where it was nought -/
theorem wid_read (b : Nat) : (∃ s m p, single.read b = .number s m p ∧ ∃ r m' p', wid (some b) = some r ∧ double.read r = .number s m' p' ∧ (m' = 0 ↔ m = 0) ∧ (m' = 0 ∨ (m'.log2 : Int) + p' < 130)) ∨ (∃ s, single.read b = .infinity s ∧ ∃ r, wid (some b) = some r ∧ double.read r = .infinity s) ∨ (∃ s t, single.read b = .nan s t ∧ wid (some b) = none) := by
  rcases wid_cases b with ⟨s, m, p, h1, hm, h2, h3, h4⟩ | ⟨s, h1, h2⟩ | h
  · refine .inl ⟨s, m, p, h1, double.write (.number s m p), ?_⟩
    by_cases h0 : m = 0
    · subst h0
      exact ⟨0, -1074, h4, read_write_zero s p, Iff.rfl, .inl rfl⟩
    · have hl : m.log2 < 24 := (Nat.log2_lt h0).2 hm
      have a := write_lo double (e := -149) (s := s) (m := m) (p := p) ⟨h0, by have := Nat.zero_le m.log2; omega⟩ (by decide) (by decide)
      have b := write_bd double (e := 129) (s := s) (m := m) (p := p) (.inr (by omega)) (by decide) (by decide)
      have c := (read_nearest_sign s m p).1
      have c : (double.read (double.write (.number s m p))).neg = s := c
      cases hr : double.read (double.write (.number s m p)) with
      | number s' m' p' =>
        rw [hr] at a b c
        have : s' = s := c
        subst this
        exact ⟨m', p', h4, rfl, ⟨fun h => absurd h a.1, fun h => absurd h h0⟩, b⟩
      | infinity _ => rw [hr] at b; exact absurd b (by intro h; exact h)
      | nan _ _ => rw [hr] at b; exact absurd b (by intro h; exact h)
  · exact .inr (.inl ⟨s, h1, _, h2, read_write_inf s⟩)
  · exact .inr (.inr h)

theorem Bi.wid (x : Option Nat) : Bi 130 (wid x) := by
  cases x with
  | none => intro b hb; cases hb
  | some a =>
    intro b hb
    rcases wid_read a with ⟨s, m, p, _, r, m', p', h1, h2, _, h3⟩ | ⟨s, _, r, h1, h2⟩ | ⟨s, t, _, h1⟩
    · rw [h1] at hb; cases hb; rw [h2]; exact h3
    · rw [h1] at hb; cases hb; rw [h2]; trivial
    · rw [h1] at hb; cases hb

theorem Cl.wid (x : Option Nat) : Cl (wid x) := by
  intro b hb
  have := Bi.wid x b hb
  revert this
  cases double.read b with
  | number _ _ _ => intro _; rfl
  | infinity _ => intro _; rfl
  | nan _ _ => intro h; exact absurd h (by intro h; exact h)

theorem fcv_sqrt_wid (x : Option Nat) : ∃ y, Go.H.fcv .f64 .f32 (fsqrt (Go.H.wid x)) = some y :=
  Bi.fcv (fun b hb => by
    have h := Bi.sqrt (e := 65) (Bi.wid x) (by omega) (by omega) b hb
    revert h
    cases double.read b with
    | number _ _ _ => exact fun h => h.imp id (fun h => by omega)
    | infinity _ => exact id
    | nan _ _ => exact id)

/-! ### finite? -/
def fin (k : FloatKind) (x : Option Nat) : Bool := match x with
  | some b => (match k.format.read b with | .number .. => true | _ => false)
  | none => false

theorem order_self (d : Datum) (h : d.isNaN = false) : d.order d = some .eq := by
  cases d with
  | nan _ _ => cases h
  | infinity s => cases s <;> rfl
  | number s m i => simp [Datum.order, Int.min_self]

theorem eql_self {k : FloatKind} {b : Nat} (h : (k.format.read b).isNaN = false) : fcmp .eql k (some b) (some b) = true := by
  show (k.format.order b b == some .eq) = true
  have : k.format.order b b = some .eq := order_self _ h
  rw [this]; rfl

theorem sum_opp (s : Bool) (m : Nat) (i : Int) : (Datum.number s m i).sum (Datum.number s m i).opposite = some (.number false 0 i) := by
  show (Datum.number s m i).sum (Datum.number (!s) m i) = _
  unfold Datum.sum
  dsimp only
  rw [Int.min_self, Int.sub_self]
  have : signed s m (Int.toNat 0) + signed (!s) m (Int.toNat 0) = 0 := by cases s <;> simp [signed] <;> omega
  rw [this]
  simp

theorem sub_self (k : FloatKind) (x : Option Nat) : fop .sub k x x = if fin k x then some 0 else none := by
  cases x with
  | none => rfl
  | some b =>
    show ((k.format.read b).sum (k.format.read b).opposite).map k.format.write = _
    show _ = if (match k.format.read b with | .number .. => true | _ => false) = true then some 0 else none
    cases k.format.read b with
    | number s m i =>
      rw [sum_opp]
      cases k <;> rfl
    | infinity s => cases s <;> rfl
    | nan _ _ => rfl

theorem fin_eql (k : FloatKind) (x : Option Nat) : fcmp .eql k (fop .sub k x x) (some 0) = fin k x := by
  rw [sub_self]
  cases fin k x
  · cases k <;> rfl
  · cases k <;> decide

theorem fin_neq (k : FloatKind) (x : Option Nat) : fcmp .neq k (fop .sub k x x) (some 0) = !fin k x := by
  rw [← fin_eql]; rfl

theorem fin_wid (x : Option Nat) : fin .f64 (wid x) = fin .f32 x := by
  cases x with
  | none => rfl
  | some b =>
    rcases wid_read b with ⟨s, m, p, h, r, m', p', h1, h2, _, h3⟩ | ⟨s, h, r, h1, h2⟩ | ⟨s, t, h, h1⟩
    · rw [h1]
      show (match double.read r with | .number .. => true | _ => false) = (match single.read b with | .number .. => true | _ => false)
      rw [h2, h]
    · rw [h1]
      show (match double.read r with | .number .. => true | _ => false) = (match single.read b with | .number .. => true | _ => false)
      rw [h2, h]
    · rw [h1]
      show false = (match single.read b with | .number .. => true | _ => false)
      rw [h]

/-- against nought, a number and its widening stand alike -/
theorem order_zero_wid (x : Option Nat) : ford .f64 (wid x) (some 0) = ford .f32 x (some 0) := by
  have z1 : single.read 0 = .number false 0 (-149) := by decide
  have z2 : double.read 0 = .number false 0 (-1074) := by decide
  have key : ∀ (s : Bool) (m : Nat) (p q : Int), (Datum.number s m p).order (.number false 0 q) = some (if m = 0 then .eq else if s then .lt else .gt) := by
    intro s m p q
    simp only [Datum.order]
    have hpos := Nat.two_pow_pos (p - min p q).toNat
    have e0 : signed false 0 (q - min p q).toNat = 0 := by simp [signed]
    rw [e0]
    unfold signed
    rw [Nat.shiftLeft_eq]
    by_cases h0 : m = 0
    · subst h0; cases s <;> simp
    · have := Nat.mul_pos (Nat.pos_of_ne_zero h0) hpos
      rw [if_neg h0]
      cases s
      · simp only [Bool.false_eq_true, if_false]
        congr 1
        rw [Int.compare_eq_gt]; omega
      · simp only [if_true]
        congr 1
        rw [Int.compare_eq_lt]; omega
  cases x with
  | none => rfl
  | some b =>
    show (wid (some b)).bind (fun a => double.order a 0) = single.order b 0
    rcases wid_read b with ⟨s, m, p, h, r, m', p', h1, h2, h3, _⟩ | ⟨s, h, r, h1, h2⟩ | ⟨s, t, h, h1⟩
    · rw [h1]
      show (double.read r).order (double.read 0) = (single.read b).order (single.read 0)
      rw [h2, h, z1, z2, key, key]
      by_cases h0 : m = 0
      · rw [if_pos h0, if_pos (h3.2 h0)]
      · rw [if_neg h0, if_neg (fun h => h0 (h3.1 h))]
    · rw [h1]
      show (double.read r).order (double.read 0) = (single.read b).order (single.read 0)
      rw [h2, h, z1, z2]
      cases s <;> rfl
    · rw [h1]
      show none = (single.read b).order (single.read 0)
      rw [h]; rfl

theorem fcmp_zero_wid (op : BinOp) (x : Option Nat) : fcmp op .f64 (wid x) (some 0) = fcmp op .f32 x (some 0) := by
  cases op <;> simp only [fcmp, feq, flt, fle, order_zero_wid]
end Go.H
