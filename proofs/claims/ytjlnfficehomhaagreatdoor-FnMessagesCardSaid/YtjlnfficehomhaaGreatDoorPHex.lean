/- Eight digits. -/
import Derived.Test.YtjlnfficehomhaaGreatDoorGStripChecks
import Derived.Test.YtjlnfficehomhaaGreatDoorPFold
set_option linter.unusedVariables false
namespace Go.H
open Go Go.Proofs

/-- a digit's sign -/
def dig (d : Nat) : Int := if d < 10 then 48 + (d : Int) else 87 + (d : Int)
/-- so many digits, the last ones -/
def hexD : Nat → Nat → List Int
  | 0, _ => []
  | k + 1, n => hexD k (n / 16) ++ [dig (n % 16)]
theorem hexD_len : ∀ k n, (hexD k n).length = k
  | 0, _ => rfl
  | k + 1, n => by rw [hexD, List.length_append, hexD_len k]; rfl
theorem hexD_zero : ∀ k, hexD k 0 = List.replicate k 48
  | 0 => rfl
  | k + 1 => by
    rw [hexD, Nat.zero_div, hexD_zero k, List.replicate_succ']
    rfl

theorem sidx_DIG : ∀ d : Nat, d < 16 → sidx DIG (d : Int) = some (dig d) := by decide +kernel
theorem ofInt_nat (m : Nat) (h : m < 4294967296) : (BitVec.ofInt 64 (m : Int)).toNat = m := by
  rw [BitVec.toNat_ofInt]
  omega
theorem and15 (k : IntKind) (hk : k = .i64 ∨ k = .u64) (m : Nat) (h : m < 4294967296) : bits .and k (m : Int) 15 = ((m % 16 : Nat) : Int) := by
  have e : ((BitVec.ofInt 64 (m : Int)) &&& (BitVec.ofInt 64 15)).toNat = m % 16 := by
    rw [BitVec.toNat_and, ofInt_nat m h, show (BitVec.ofInt 64 15).toNat = 2 ^ 4 - 1 by decide, Nat.and_two_pow_sub_one_eq_mod]
  have hm : m % 16 < 16 := Nat.mod_lt _ (by decide)
  rcases hk with rfl | rfl
  · show IntKind.wrap .i64 ((((BitVec.ofInt 64 (m : Int)) &&& (BitVec.ofInt 64 15)).toNat : Nat) : Int) = _
    rw [e]
    exact wrap_small (by omega) (by omega)
  · show IntKind.wrap .u64 ((((BitVec.ofInt 64 (m : Int)) &&& (BitVec.ofInt 64 15)).toNat : Nat) : Int) = _
    rw [e]
    generalize m % 16 = q at hm
    show ((q : Int) % 18446744073709551616 : Int) = q
    omega
theorem shr_nat (k : IntKind) (m s : Nat) (hs : s < 64) (hk : k.bits = 64) : bits .shr k (m : Int) (s : Int) = ((m / 2 ^ s : Nat) : Int) := by
  show ((m : Int).fdiv (2 ^ (min (s : Int).toNat k.bits))) = _
  rw [hk, Int.toNat_natCast, Nat.min_eq_left (by omega), Int.fdiv_eq_ediv_of_nonneg _ (by exact Int.le_of_lt (Int.pow_pos (by decide)))]
  rw [Int.natCast_ediv, Int.natCast_pow]
  rfl

theorem mkS_append (a b : List Int) : mkS a ++ mkS b = mkS (a ++ b) := by
  apply ByteArray.ext
  rw [ByteArray.data_append]
  simp [mkS]
theorem mkS_size (a : List Int) : (mkS a).size = a.length := by
  show (mkS a).data.size = _
  simp [mkS]

/-- the least digits that tell a number -/
theorem fmt_loop : ∀ (k n : Nat) (acc : List Int), n < 16 ^ (k + 1) → n < 4294967296 → acc.length + k < 59 → ∃ (u : Nat) (acc' : List Int) (j : Nat), j ≤ k ∧ loopF fmtStep ((n : Int), acc) = some ((u : Int), acc') ∧ u < 16 ∧ acc'.length = acc.length + j ∧ List.replicate (k - j) 48 ++ dig u :: acc' = hexD (k + 1) n ++ acc
  | 0, n, acc, h, h2, ha => by
    have hn : n < 16 := by simpa using h
    refine ⟨n, acc, 0, Nat.le_refl _, loopF_stop ?_, hn, rfl, ?_⟩
    · unfold fmtStep
      have : decide ((n : Int) ≥ 16) = false := decide_eq_false (by omega)
      simp only [this, Bool.false_eq_true, if_false]
    · rw [hexD, hexD, Nat.mod_eq_of_lt hn]; rfl
  | k + 1, n, acc, h, h2, ha => by
    by_cases hn : 16 ≤ n
    · have h3 : n / 16 < 16 ^ (k + 1) := by
        rw [Nat.div_lt_iff_lt_mul (by decide)]
        rw [Nat.pow_succ] at h
        exact h
      obtain ⟨u, acc', j, j1, j2, j3, j4, j5⟩ := fmt_loop k (n / 16) (dig (n % 16) :: acc) h3 (Nat.lt_of_le_of_lt (Nat.div_le_self _ _) h2) (by rw [List.length_cons]; omega)
      refine ⟨u, acc', j + 1, by omega, ?_, j3, by rw [j4, List.length_cons]; omega, ?_⟩
      · rw [← j2]
        refine loopF_next ?_
        unfold fmtStep
        have c : decide ((n : Int) ≥ 16) = true := decide_eq_true (by omega)
        have hm : n % 16 < 16 := Nat.mod_lt _ (by decide)
        have hs := shr_nat .u64 n 4 (by decide) rfl
        have e4 : ((4 : Nat) : Int) = 4 := rfl
        rw [e4, show 2 ^ 4 = 16 by decide] at hs
        simp only [c, if_true, and15 .u64 (.inr rfl) n h2, sidx_DIG _ hm, Option.bind_some, hs]
        rw [if_pos (by omega)]
      · rw [show k + 1 - (j + 1) = k - j by omega, j5]
        rw [show hexD (k + 1 + 1) n = hexD (k + 1) (n / 16) ++ [dig (n % 16)] from rfl, List.append_assoc]
        rfl
    · refine ⟨n, acc, 0, Nat.zero_le _, loopF_stop ?_, by omega, rfl, ?_⟩
      · unfold fmtStep
        have : decide ((n : Int) ≥ 16) = false := decide_eq_false (by omega)
        simp only [this, Bool.false_eq_true, if_false]
      · rw [show hexD (k + 1 + 1) n = hexD (k + 1) (n / 16) ++ [dig (n % 16)] from rfl, Nat.div_eq_of_lt (by omega), hexD_zero, Nat.mod_eq_of_lt (by omega), List.append_assoc]
        rfl

theorem repeat_zeros (j : Nat) (hj : j ≤ 8) : strings_Repeat (⟨#[48]⟩ : ByteArray) (j : Int) = some (mkS (List.replicate j 48)) := by
  unfold strings_Repeat
  have hs : (⟨#[48]⟩ : ByteArray).size = 1 := rfl
  rw [Int.toNat_natCast, hs, if_pos ⟨by omega, by omega, by omega⟩]
  have : j = 0 ∨ j = 1 ∨ j = 2 ∨ j = 3 ∨ j = 4 ∨ j = 5 ∨ j = 6 ∨ j = 7 ∨ j = 8 := by omega
  rcases this with rfl | rfl | rfl | rfl | rfl | rfl | rfl | rfl | rfl <;> rfl

theorem hex_impl (x : Option Nat) (n : Nat) (h : n < 4294967296) (hb : impl_BitsOf x = some (n : Int)) : impl_hexOf x = some (mkS (hexD 8 n)) := by
  unfold impl_hexOf
  rw [hb, Option.bind_some]
  obtain ⟨u, acc, j, j1, j2, j3, j4, j5⟩ := fmt_loop 7 n [] (by simpa using h) h (by simp)
  have hl : acc.length = j := by simpa using j4
  have hf : strconv_FormatInt (n : Int) 16 = some (mkS (dig u :: acc)) := by
    unfold strconv_FormatInt fmt16
    rw [if_pos ⟨rfl, by omega, by omega⟩, j2, Option.bind_some]
    simp only [sidx_DIG u j3, Option.bind_some]
    rw [if_pos (by omega)]
  rw [hf, Option.bind_some]
  have hw : IntKind.wrap .i64 (8 - ((mkS (dig u :: acc)).size : Int)) = ((7 - j : Nat) : Int) := by
    rw [mkS_size, List.length_cons, wrap_small (by omega) (by omega)]
    omega
  rw [hw, repeat_zeros _ (by omega), Option.bind_some, mkS_append, j5, List.append_nil, mkS_size, mkS_size]
  rw [if_pos (by simp; omega)]


theorem bits_some (x : Option Nat) (hx : ∀ b, x = some b → b < 4294967296) : ∃ n : Nat, n < 4294967296 ∧ impl_BitsOf x = some (n : Int) := by
  unfold impl_BitsOf
  by_cases c : fcmp .neq .f32 x x = true
  · rw [if_pos c]
    exact ⟨2143289344, by omega, rfl⟩
  · rw [if_neg c]
    cases x with
    | none => exact absurd (show fcmp .neq .f32 none none = true from rfl) c
    | some b =>
      have hb := hx b rfl
      refine ⟨b, hb, ?_⟩
      show some (IntKind.wrap .i64 (b : Int)) = _
      rw [wrap_small (by omega) (by omega)]

/-- a number's eight digits -/
theorem hex_eq (x : Option Nat) (hx : ∀ b, x = some b → b < 4294967296) : ∃ s : List Int, s.length = 8 ∧ impl_hexOf x = some (mkS s) := by
  obtain ⟨n, hn, e2⟩ := bits_some x hx
  exact ⟨hexD 8 n, hexD_len _ _, hex_impl x n hn e2⟩
end Go.H
