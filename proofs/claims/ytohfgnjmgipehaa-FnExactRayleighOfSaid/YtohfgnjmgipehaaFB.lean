/- Bounds on floats, by powers of two. -/
import Derived.Test.YtohfgnjmgipehaaBase11
namespace Go.H
open Go Ieee

/-- less than '2 ^ e' -/
def BdD (e : Int) : Datum → Prop
  | .number _ m p => m = 0 ∨ (m.log2 : Int) + p < e
  | _ => False
/-- at least '2 ^ e', or an infinity -/
def LoD (e : Int) : Datum → Prop
  | .number _ m p => m ≠ 0 ∧ e ≤ (m.log2 : Int) + p
  | .infinity _ => True
  | _ => False
/-- not below nought -/
def NnD : Datum → Prop
  | .number s m _ => s = false ∨ m = 0
  | .infinity s => s = false
  | _ => False

theorem log2_lt_iff {n k : Nat} (h : n ≠ 0) : n.log2 < k ↔ n < 2 ^ k := Nat.log2_lt h
theorem lt_pow_log2 (n : Nat) : n < 2 ^ (n.log2 + 1) := Nat.lt_log2_self
theorem pow_log2_le {n : Nat} (h : n ≠ 0) : 2 ^ n.log2 ≤ n := Nat.log2_self_le h

theorem cut_le_pow (neg : Bool) (n drop k : Nat) (h : n < 2 ^ (k + drop)) : Toward.even.cut neg n drop ≤ 2 ^ k := by
  unfold Toward.cut
  dsimp only
  have hb : ∀ b : Bool, b.toNat ≤ 1 := by decide
  have key : n / (1 <<< min drop (n.log2 + 2)) < 2 ^ k := by
    rw [Nat.one_shiftLeft]
    by_cases hd : drop ≤ n.log2 + 2
    · rw [Nat.min_eq_left hd, Nat.div_lt_iff_lt_mul (Nat.two_pow_pos _), ← Nat.pow_add]
      exact h
    · rw [Nat.min_eq_right (by omega)]
      have : n / 2 ^ (n.log2 + 2) = 0 := Nat.div_eq_of_lt (Nat.lt_trans (lt_pow_log2 n) (Nat.pow_lt_pow_right (by decide) (by omega)))
      rw [this]
      exact Nat.two_pow_pos _
  have := hb (decide ((1 <<< min drop (n.log2 + 2)) < 2 * (n % (1 <<< min drop (n.log2 + 2)))) || ((1 <<< min drop (n.log2 + 2)) == 2 * (n % (1 <<< min drop (n.log2 + 2))) && n / (1 <<< min drop (n.log2 + 2)) % 2 == 1))
  omega

theorem cut_ge_pow (neg : Bool) (n drop k : Nat) (h : 2 ^ (k + drop) ≤ n) : 2 ^ k ≤ Toward.even.cut neg n drop := by
  unfold Toward.cut
  dsimp only
  have hn : n ≠ 0 := by
    have := Nat.two_pow_pos (k + drop)
    omega
  have hl : k + drop ≤ n.log2 := (Nat.le_log2 hn).2 h
  rw [Nat.one_shiftLeft, Nat.min_eq_left (by omega)]
  have : 2 ^ k ≤ n / 2 ^ drop := by
    rw [Nat.le_div_iff_mul_le (Nat.two_pow_pos _), ← Nat.pow_add]
    exact h
  omega

section
variable (f : Format)
structure Format.Ok : Prop where
  neg : f.leastPlace ≤ 0
  two : 2 ≤ f.exponentBits

theorem read_word (neg : Bool) {r : Nat} (h : r < f.signWeight) : f.read (f.word neg r) =
    (if r < f.binade then .number neg r f.leastPlace
    else if r < f.infRung then .number neg (f.binade + r % f.binade) (f.leastPlace + (r / f.binade - 1 : Nat))
    else if r = f.infRung then .infinity neg
    else .nan neg (r - f.infRung)) := by
  have hp : 0 < f.signWeight := by unfold Format.signWeight; exact Nat.two_pow_pos _
  have h1 : f.word neg r % f.signWeight = r := by
    unfold Format.word
    split
    · rw [Nat.add_mod_left, Nat.mod_eq_of_lt h]
    · exact Nat.mod_eq_of_lt h
  have h2 : (f.word neg r / f.signWeight % 2 == 1) = neg := by
    unfold Format.word
    split
    · rename_i hn
      rw [Nat.add_div_left _ hp, Nat.div_eq_of_lt h, hn]; rfl
    · rename_i hn
      rw [Nat.div_eq_of_lt h]; simp at hn; rw [hn]; rfl
  unfold Format.read
  simp only [h1, h2]

theorem log2_of {n k : Nat} (h1 : 2 ^ k ≤ n) (h2 : n < 2 ^ (k + 1)) : n.log2 = k := by
  have hn : n ≠ 0 := by have := Nat.two_pow_pos k; omega
  have a := (Nat.le_log2 hn).2 h1
  have b := (Nat.log2_lt hn).2 h2
  omega

/-- a rung's datum -/
theorem rung_datum (neg : Bool) {r : Nat} (h : r ≤ f.infRung) : 
    (r < f.binade ∧ f.read (f.word neg r) = .number neg r f.leastPlace) ∨
    (f.binade ≤ r ∧ r < f.infRung ∧ ∃ m, m.log2 = f.fractionBits ∧ m ≠ 0 ∧ f.read (f.word neg r) = .number neg m (f.leastPlace + (r / f.binade : Nat) - 1)) ∨
    (r = f.infRung ∧ f.binade ≤ r ∧ f.read (f.word neg r) = .infinity neg) ∨ (r = f.infRung ∧ r < f.binade) := by
  have hb : 0 < f.binade := by unfold Format.binade; exact Nat.two_pow_pos _
  rw [read_word f neg (Nat.lt_of_le_of_lt h f.infRung_lt)]
  by_cases h1 : r < f.binade
  · exact .inl ⟨h1, by rw [if_pos h1]⟩
  · by_cases h2 : r < f.infRung
    · refine .inr (.inl ⟨by omega, h2, f.binade + r % f.binade, ?_, by omega, ?_⟩)
      · have := Nat.mod_lt r hb
        apply log2_of
        · show f.binade ≤ _; omega
        · show _ < 2 ^ (f.fractionBits + 1)
          rw [Nat.pow_succ]
          have : f.binade = 2 ^ f.fractionBits := rfl
          omega
      · rw [if_neg h1, if_pos h2]
        have : 1 ≤ r / f.binade := (Nat.le_div_iff_mul_le hb).2 (by omega)
        congr 1
        omega
    · have h3 : r = f.infRung := by omega
      exact .inr (.inr (.inl ⟨h3, by omega, by rw [if_neg h1, if_neg h2, if_pos h3]⟩))

theorem nearest_rung (neg : Bool) {m : Nat} (hm : m ≠ 0) (p : Int) : ∃ (last : Int) (kept : Nat), f.nearest neg m p = f.word neg (min ((last - f.leastPlace).toNat * f.binade + kept) f.infRung) ∧
    last = max (p + m.log2 - f.fractionBits) f.leastPlace ∧ kept ≤ 2 ^ (f.fractionBits + 1) ∧ (p + m.log2 - f.fractionBits ≥ f.leastPlace → 2 ^ f.fractionBits ≤ kept) := by
  unfold Format.nearest
  rw [if_neg hm]
  refine ⟨_, _, rfl, rfl, ?_, ?_⟩
  · apply cut_le_pow
    rw [Nat.shiftLeft_eq]
    have := lt_pow_log2 m
    refine Nat.lt_of_lt_of_le (Nat.mul_lt_mul_of_pos_right this (Nat.two_pow_pos _)) ?_
    rw [← Nat.pow_add]
    apply Nat.pow_le_pow_right (by decide)
    omega
  · intro hge
    apply cut_ge_pow
    rw [Nat.shiftLeft_eq]
    refine Nat.le_trans ?_ (Nat.mul_le_mul_right _ (pow_log2_le hm))
    rw [← Nat.pow_add]
    apply Nat.pow_le_pow_right (by decide)
    omega

/-- what is written of a number less than '2 ^ e' is at most '2 ^ e' -/
theorem write_bd {e : Int} {s : Bool} {m : Nat} {p : Int} (h : BdD e (.number s m p)) (h1 : f.leastPlace + f.fractionBits < e) (h2 : e + 1 - f.fractionBits - f.leastPlace ≤ 2 ^ f.exponentBits - 2) : BdD (e + 1) (f.read (f.write (.number s m p))) := by
  have hb : 0 < f.binade := by unfold Format.binade; exact Nat.two_pow_pos _
  have hinf : f.infRung = (2 ^ f.exponentBits - 1) * f.binade := rfl
  have hp2 : 0 < 2 ^ f.exponentBits := Nat.two_pow_pos _
  have h2' : e + 1 - f.fractionBits - f.leastPlace ≤ ((2 ^ f.exponentBits : Nat) : Int) - 2 := by simpa using h2
  have small : ∀ r : Nat, r ≤ (e + 1 - f.fractionBits - f.leastPlace).toNat * f.binade → BdD (e + 1) (f.read (f.word s r)) := by
    intro r hr
    have hlt : (e + 1 - f.fractionBits - f.leastPlace).toNat * f.binade < f.infRung := by
      rw [hinf]
      apply Nat.mul_lt_mul_of_pos_right _ hb
      omega
    rcases rung_datum f s (show r ≤ f.infRung by omega) with ⟨a, b⟩ | ⟨a, b, m', c, d, g⟩ | ⟨a, _⟩ | ⟨a, _⟩
    · rw [b]
      by_cases h0 : r = 0
      · exact .inl h0
      · refine .inr ?_
        have : r.log2 < f.fractionBits := (Nat.log2_lt h0).2 a
        omega
    · rw [g]
      refine .inr ?_
      rw [c]
      have : r / f.binade ≤ (e + 1 - f.fractionBits - f.leastPlace).toNat := by
        apply Nat.div_le_of_le_mul
        rw [Nat.mul_comm]; exact hr
      omega
    · omega
    · omega
  by_cases hm : m = 0
  · subst hm
    show BdD _ (f.read (f.nearest s 0 p))
    unfold Format.nearest
    rw [if_pos rfl]
    exact small 0 (Nat.zero_le _)
  · obtain ⟨last, kept, hr, hl, hk, _⟩ := nearest_rung f s hm p
    show BdD _ (f.read (f.nearest s m p))
    rw [hr]
    rcases h with h | h
    · exact absurd h hm
    apply small
    refine Nat.le_trans (Nat.min_le_left ..) ?_
    have e1 : (2 : Nat) ^ (f.fractionBits + 1) = 2 * f.binade := by rw [Nat.pow_succ, Nat.mul_comm]; rfl
    have e2 : (last - f.leastPlace).toNat + 2 ≤ (e + 1 - f.fractionBits - f.leastPlace).toNat := by omega
    calc (last - f.leastPlace).toNat * f.binade + kept ≤ (last - f.leastPlace).toNat * f.binade + 2 * f.binade := by omega
      _ = ((last - f.leastPlace).toNat + 2) * f.binade := by rw [Nat.add_mul]
      _ ≤ _ := Nat.mul_le_mul_right _ e2

/-- what is written of a number of at least '2 ^ e' is at least that -/
theorem write_lo {e : Int} {s : Bool} {m : Nat} {p : Int} (h : LoD e (.number s m p)) (h1 : f.leastPlace + f.fractionBits ≤ e) (he : 2 ≤ f.exponentBits) : LoD e (f.read (f.write (.number s m p))) := by
  obtain ⟨hm, h⟩ := h
  have hb : 0 < f.binade := by unfold Format.binade; exact Nat.two_pow_pos _
  have hinf : f.infRung = (2 ^ f.exponentBits - 1) * f.binade := rfl
  have hp2 : 2 ^ 2 ≤ 2 ^ f.exponentBits := Nat.pow_le_pow_right (by decide) he
  obtain ⟨last, kept, hr, hl, _, hk⟩ := nearest_rung f s hm p
  have hk := hk (by omega)
  show LoD _ (f.read (f.nearest s m p))
  rw [hr]
  have hbi : f.binade ≤ f.infRung := by
    rw [hinf]
    exact Nat.le_mul_of_pos_left _ (by omega)
  have hkb : f.binade ≤ kept := hk
  rcases rung_datum f s (Nat.min_le_right ((last - f.leastPlace).toNat * f.binade + kept) f.infRung) with ⟨a, b⟩ | ⟨a, b, m', c, d, g⟩ | ⟨a, _, g⟩ | ⟨a, g⟩
  · omega
  · rw [g]
    refine ⟨d, ?_⟩
    rw [c]
    have : (last - f.leastPlace).toNat + 1 ≤ min ((last - f.leastPlace).toNat * f.binade + kept) f.infRung / f.binade := by
      rw [Nat.le_div_iff_mul_le hb, Nat.add_mul, Nat.one_mul]
      omega
    omega
  · rw [g]; trivial
  · omega
end
end Go.H
