/- A 32-bit number is a 64-bit one. -/
import Derived.Test.YtohfgnjmgipehaaBase3
namespace Go.H
open Go Ieee

theorem cut_le (way : Toward) (neg : Bool) (n drop : Nat) : way.cut neg n drop ≤ n + 1 := by
  unfold Toward.cut
  have h1 : n / (1 <<< min drop (n.log2 + 2)) ≤ n := Nat.div_le_self _ _
  have h2 : ∀ b : Bool, b.toNat ≤ 1 := fun b => by cases b <;> decide
  exact Nat.add_le_add h1 (h2 _)

theorem cut_zero (way : Toward) (neg : Bool) (n : Nat) : way.cut neg n 0 ≤ n := by
  unfold Toward.cut
  have h1 : (1 : Nat) <<< min 0 (n.log2 + 2) = 1 := by simp
  simp only [h1, Nat.div_one, Nat.mod_one]
  cases way <;> simp

/-- of a number that is not too great, the nearest 64-bit word is finite -/
theorem double_finite (neg : Bool) (m : Nat) (e : Int) (hm : m < 2 ^ 24) (he : e ≤ 104) : (double.read (double.nearest neg m e)).isInfinity = false := by
  have key : ∀ r, r < double.infRung → (double.read (double.word neg r)).isInfinity = false := by
    intro r hr
    have hs : double.signWeight = 9223372036854775808 := by decide
    have hi : double.infRung = 9218868437227405312 := by decide
    have h1 : double.word neg r % double.signWeight = r := by
      unfold Format.word
      rw [hs]; rw [hi] at hr
      split <;> omega
    unfold Format.read
    simp only [h1]
    split
    · rfl
    · rfl
  unfold Format.nearest
  split
  · exact key 0 (by decide)
  · rename_i h0
    dsimp only
    refine key _ ?_
    have hlp : double.leastPlace = -1074 := by decide
    have hfb : double.fractionBits = 52 := by decide
    have hbin : double.binade = 4503599627370496 := by decide
    have hi : double.infRung = 9218868437227405312 := by decide
    rw [hlp, hfb, hbin, hi]
    have hlog : m.log2 < 24 := (Nat.log2_lt h0).2 hm
    have hlo : m < 2 ^ (m.log2 + 1) := Nat.lt_log2_self
    generalize hL : max (e + (m.log2 : Int) - (52 : Nat)) (-1074) = last
    have hl1 : last ≤ 75 := by omega
    have hl2 : e + (m.log2 : Int) - 52 ≤ last := by omega
    have hl3 : -1074 ≤ last := by omega
    have hk : Toward.even.cut neg (m <<< (e - last).toNat) (last - e).toNat ≤ 9007199254740992 := by
      by_cases hle : last ≤ e
      · have h1 : (last - e).toNat = 0 := by omega
        rw [h1]
        refine Nat.le_trans (cut_zero _ _ _) ?_
        rw [Nat.shiftLeft_eq]
        have h2 : (e - last).toNat + (m.log2 + 1) ≤ 53 := by omega
        have h3 : m * 2 ^ (e - last).toNat ≤ 2 ^ (m.log2 + 1) * 2 ^ (e - last).toNat := Nat.mul_le_mul_right _ (Nat.le_of_lt hlo)
        rw [← Nat.pow_add] at h3
        have h4 : 2 ^ (m.log2 + 1 + (e - last).toNat) ≤ 2 ^ 53 := Nat.pow_le_pow_right (by decide) (by omega)
        have h5 : (2 : Nat) ^ 53 = 9007199254740992 := by decide
        omega
      · have h1 : (e - last).toNat = 0 := by omega
        rw [h1]
        refine Nat.le_trans (cut_le _ _ _ _) ?_
        simp only [Nat.shiftLeft_zero]
        omega
    have h6 : (last - -1074).toNat ≤ 1149 := by omega
    generalize (last - -1074).toNat = q at h6 ⊢
    generalize Toward.even.cut neg (m <<< (e - last).toNat) (last - e).toNat = k at hk ⊢
    have h7 : q * 4503599627370496 + k < 9218868437227405312 := by omega
    exact Nat.lt_of_le_of_lt (Nat.min_le_left _ _) h7

theorem single_read {b : Nat} {s : Bool} {m : Nat} {e : Int} (h : single.read b = .number s m e) : m < 2 ^ 24 ∧ e ≤ 104 := by
  have hbin : single.binade = 8388608 := by decide
  have hi : single.infRung = 2139095040 := by decide
  have hlp : single.leastPlace = -149 := by decide
  unfold Format.read at h
  dsimp only at h
  rw [hbin, hi, hlp] at h
  split at h
  · cases h; exact ⟨by omega, by omega⟩
  · split at h
    · rename_i h1
      cases h
      refine ⟨by omega, ?_⟩
      have : b % single.signWeight / 8388608 - 1 ≤ 253 := by omega
      omega
    · split at h <;> cases h

theorem widen_some {b : Nat} (hn : (single.read b).isNaN = false) : ∃ r, floatToFloatBits .f32 b .f64 = some r := by
  unfold floatToFloatBits
  rw [if_neg (by decide)]
  cases hd : FloatKind.f32.decode b with
  | nan s t =>
    have : single.read b = .nan s t := hd
    rw [this] at hn
    cases hn
  | infinity s => exact ⟨_, rfl⟩
  | number s m e =>
    obtain ⟨h1, h2⟩ := single_read (b := b) hd
    have : (FloatKind.f64.decode (FloatKind.f64.encode (.number s m e))).isInfinity = false := double_finite s m e h1 h2
    simp only [this]
    exact ⟨_, rfl⟩

end Go.H
