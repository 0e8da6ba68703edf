/- Spectra: they lead nearly back. -/
import Derived.Test.YtmgoblppedmdhaaPSpT
import Derived.Test.YtmgoblppedmdhaaFV7
import Derived.Test.YtmgoblppedmdhaaGSpectra
set_option linter.unusedVariables false
namespace Go.H
open Go Ieee

theorem e2374 : (2 : Int) ^ 2374 = 134217728 * TT := by unfold TT; decide +kernel
theorem e2352 : (2 : Int) ^ 2352 = 32 * TT := by unfold TT; decide +kernel
theorem g2353 : (2 : Int) ^ 2353 = 64 * TT := by unfold TT; decide +kernel
theorem e2382 : (2 : Int) ^ 2382 = 34359738368 * TT := by unfold TT; decide +kernel
theorem e2385 : (2 : Int) ^ 2385 = 274877906944 * TT := by unfold TT; decide +kernel
theorem g2406 : (2 : Int) ^ 2406 = 576460752303423488 * TT := by unfold TT; decide +kernel
theorem e2398 : (2 : Int) ^ 2398 = 2251799813685248 * TT := by unfold TT; decide +kernel

theorem near_abs {x : Option Nat} {S : Int} {n : Nat} (hn : n ≤ 10) (h : Near n x S) (s1 : -5368709120 ≤ S) (s2 : S ≤ 5368709120) : ∃ a, valf .f32 x = some a ∧ -(91268055040 * TT) ≤ a - S * (33554432 * TT) ∧ a - S * (33554432 * TT) ≤ 91268055040 * TT ∧ -(180144076362874880 * TT) ≤ a ∧ a ≤ 180144076362874880 * TT := by
  obtain ⟨a, va, a1, a2⟩ := h
  have hT := TT_pos
  have hk : (n : Int) * (9126805504 * TT) ≤ 10 * (9126805504 * TT) := Int.mul_le_mul_of_nonneg_right (by omega) (by omega)
  have h1 := Int.mul_le_mul_of_nonneg_right s1 (show 0 ≤ 33554432 * TT by omega)
  have h2 := Int.mul_le_mul_of_nonneg_right s2 (show 0 ≤ 33554432 * TT by omega)
  generalize S * (33554432 * TT) = SS at *
  generalize (n : Int) * (9126805504 * TT) = u at *
  exact ⟨a, va, by omega, by omega, by omega, by omega⟩

theorem prod_t {x p : Option Nat} {S c : Int} {n : Nat} (hn : n ≤ 10) (h : Near n x S) (s1 : -5368709120 ≤ S) (s2 : S ≤ 5368709120) (hp : valf .f32 p = some (c * 2 ^ 2374)) (c1 : -(2 ^ 26) ≤ c) (c2 : c ≤ 2 ^ 26) :
    ∃ v, valf .f64 (fop .mul .f64 (wid x) (wid p)) = some v ∧ -(182536110112 * TT) ≤ 2 * v - S * c * TT ∧ 2 * v - S * c * TT ≤ 182536110112 * TT ∧ -(180144076362874896 * TT) ≤ v ∧ v ≤ 180144076362874896 * TT := by
  obtain ⟨a, va, a1, a2, a3, a4⟩ := near_abs hn h s1 s2
  have hT := TT_pos
  have hw := mul_unit (valf.wid va) (valf.wid hp)
  obtain ⟨w, hw⟩ := hw
  have hC : -(2 ^ UN) ≤ c * 2 ^ 2374 ∧ c * 2 ^ 2374 ≤ 2 ^ UN := by
    have hp := inonneg 2374
    have h1 := Int.mul_le_mul_of_nonneg_right c1 hp
    have h2 := Int.mul_le_mul_of_nonneg_right c2 hp
    have e : (2 : Int) ^ 26 * 2 ^ 2374 = 2 ^ UN := by unfold UN; decide +kernel
    rw [Int.neg_mul, e] at h1
    rw [e] at h2
    exact ⟨h1, h2⟩
  have hb := prod_le hw a3 a4 hC.1 hC.2
  have hd : (2 * w - S * c * TT) * 2 ^ UN = (2 * (a - S * (33554432 * TT))) * (c * 2 ^ 2374) := by
    rw [Int.sub_mul, Int.mul_assoc 2, hw, Int.mul_sub, Int.sub_mul, Int.mul_assoc 2 a]
    congr 1
    rw [e2374, eK]
    generalize TT = T
    have e1 : S * c * T * (9007199254740992 * T) = 9007199254740992 * (S * c * T * T) := by rw [Int.mul_left_comm]
    have e2 : 2 * (S * (33554432 * T)) * (c * (134217728 * T)) = 9007199254740992 * (S * c * T * T) := by
      have : 2 * (S * (33554432 * T)) * (c * (134217728 * T)) = (2 * 33554432 * 134217728) * (S * c * T * T) := by ac_rfl
      rw [this]; rfl
    rw [e1, e2]
  have he := prod_le hd (C := 182536110080 * TT) (by omega) (by omega) hC.1 hC.2
  have pB : (2 : Int) ^ (fbits1 .f64 + 2352) = 288230376151711744 * TT := by rw [N64]; exact e2405
  obtain ⟨v, v1, v2, v3, -⟩ := valf.mul (valf.wid va) (valf.wid hp) (Q := 2352) (by rw [L64]; decide) (by decide) hw (by rw [pB]; omega) (by rw [pB]; omega)
  rw [e2352] at v2 v3
  generalize S * c * TT = u at *
  exact ⟨v, v1, by omega, by omega, by omega, by omega⟩

/-- one product of complex numbers -/
theorem mulc_t {x p : Option Nat × Option Nat} {S R c s : Int} {n : Nat} (hn : n ≤ 10) (hS : Near n x.1 S) (hR : Near n x.2 R) (s1 : -5368709120 ≤ S) (s2 : S ≤ 5368709120) (r1 : -5368709120 ≤ R) (r2 : R ≤ 5368709120) (hc : valf .f32 p.1 = some (c * 2 ^ 2374)) (hs : valf .f32 p.2 = some (s * 2 ^ 2374)) (c1 : -(2 ^ 26) ≤ c) (c2 : c ≤ 2 ^ 26) (d1 : -(2 ^ 26) ≤ s) (d2 : s ≤ 2 ^ 26) :
    ∃ y t u, impl_MulComplex x p = some y ∧ valf .f32 y.1 = some t ∧ valf .f32 y.2 = some u ∧ (-(399431958720 * TT) ≤ 2 * t - (S * c - R * s) * TT ∧ 2 * t - (S * c - R * s) * TT ≤ 399431958720 * TT) ∧ (-(399431958720 * TT) ≤ 2 * u - (S * s + R * c) * TT ∧ 2 * u - (S * s + R * c) * TT ≤ 399431958720 * TT) ∧ (-(378302562562818048 * TT) ≤ t ∧ t ≤ 378302562562818048 * TT) ∧ -(378302562562818048 * TT) ≤ u ∧ u ≤ 378302562562818048 * TT := by
  have hT := TT_pos
  obtain ⟨p1, a1, a2, a3, a4, a5⟩ := prod_t hn hS s1 s2 hc c1 c2
  obtain ⟨p2, b1, b2, b3, b4, b5⟩ := prod_t hn hR r1 r2 hs d1 d2
  obtain ⟨p3, f1, f2, f3, f4, f5⟩ := prod_t hn hS s1 s2 hs d1 d2
  obtain ⟨p4, g1, g2, g3, g4, g5⟩ := prod_t hn hR r1 r2 hc c1 c2
  have pB : (2 : Int) ^ (fbits1 .f64 + 2353) = 576460752303423488 * TT := by rw [N64]; exact g2406
  have pC : (2 : Int) ^ (24 + 2382) = 576460752303423488 * TT := g2406
  obtain ⟨v, v1, v2, v3, -⟩ := valf.sub a1 b1 (Q := 2353) (by rw [L64]; decide) (by decide) (by rw [pB]; omega) (by rw [pB]; omega)
  obtain ⟨w, w1, w2, w3, -⟩ := valf.add f1 g1 (Q := 2353) (by rw [L64]; decide) (by decide) (by rw [pB]; omega) (by rw [pB]; omega)
  rw [g2353] at v2 v3 w2 w3
  obtain ⟨y1, t, m1, m2, m3, m4, -⟩ := valf.fcv v1 (Q := 2382) (by decide) (by decide) (by rw [pC]; omega) (by rw [pC]; omega)
  obtain ⟨y2, u, n1, n2, n3, n4, -⟩ := valf.fcv w1 (Q := 2382) (by decide) (by decide) (by rw [pC]; omega) (by rw [pC]; omega)
  rw [e2382] at m3 m4 n3 n4
  rw [Int.sub_mul, Int.add_mul]
  refine ⟨(y1, y2), t, u, ?_, m2, n2, ⟨by omega, by omega⟩, ⟨by omega, by omega⟩, ⟨by omega, by omega⟩, by omega, by omega⟩
  unfold impl_MulComplex impl_parts impl_times
  simp only [some_bind', m1, n1]

/-- what leads back, without rounding, in units of 2^-54 -/
def bR (n k : Nat) (g : Nat → Int) (j : Nat) : Int := sumN (fun m => zR n m g n * (pT false n (k * m % n)).1 - zI n m g n * (pT false n (k * m % n)).2) j
def bI (n k : Nat) (g : Nat → Int) (j : Nat) : Int := sumN (fun m => zR n m g n * (pT false n (k * m % n)).2 + zI n m g n * (pT false n (k * m % n)).1) j

theorem fofi32 : ∀ n : Nat, n < 11 → valf .f32 (fofi .f32 (n : Int)) = some ((n : Int) * 2 ^ UN) := by unfold UN; decide +kernel
theorem fofi64 : ∀ n : Nat, n < 11 → valf .f64 (fofi .f64 (n : Int)) = some ((n : Int) * 2 ^ UN) := by unfold UN; decide +kernel

theorem back_sum {n k : Nat} {g : Nat → Int} (h1 : 1 ≤ n) (h2 : n ≤ 10) (hk : k < n) (hg : ∀ i, -8 ≤ g i ∧ g i ≤ 8) : -85899345920 ≤ bR n k g n - (n : Int) * 4503599627370496 * g k ∧ bR n k g n - (n : Int) * 4503599627370496 * g k ≤ 85899345920 := by
  have e : bR n k g n = sumN (fun i => g i * sumN (fun m => (pT true n (i * m % n)).1 * (pT false n (k * m % n)).1 - (pT true n (i * m % n)).2 * (pT false n (k * m % n)).2) n) n := by
    unfold bR zR zI
    rw [sumN_congr (G := fun m => sumN (fun i => g i * ((pT true n (i * m % n)).1 * (pT false n (k * m % n)).1 - (pT true n (i * m % n)).2 * (pT false n (k * m % n)).2)) n) n fun m _ => by
      rw [Int.mul_comm _ (pT false n (k * m % n)).1, Int.mul_comm _ (pT false n (k * m % n)).2, ← sumN_mul, ← sumN_mul, ← sumN_sub]
      refine sumN_congr n fun i _ => ?_
      generalize (pT true n (i * m % n)).1 = a
      generalize (pT true n (i * m % n)).2 = b
      generalize (pT false n (k * m % n)).1 = c
      generalize (pT false n (k * m % n)).2 = d
      rw [Int.mul_sub, Int.mul_left_comm c, Int.mul_left_comm d, Int.mul_comm c, Int.mul_comm d, Int.mul_left_comm (g i), Int.mul_left_comm (g i)], sumN_swap]
    exact sumN_congr n fun i _ => sumN_mul (g i) _ n
  have hd : ∀ i, i < n → -8589934592 ≤ g i * sumN (fun m => (pT true n (i * m % n)).1 * (pT false n (k * m % n)).1 - (pT true n (i * m % n)).2 * (pT false n (k * m % n)).2) n - (if (i : Int) = (k : Int) then (n : Int) * 4503599627370496 * g i else 0) ∧ g i * sumN (fun m => (pT true n (i * m % n)).1 * (pT false n (k * m % n)).1 - (pT true n (i * m % n)).2 * (pT false n (k * m % n)).2) n - (if (i : Int) = (k : Int) then (n : Int) * 4503599627370496 * g i else 0) ≤ 8589934592 := by
    intro i hi
    have hb := pT_back (n - 1) (by omega) i (by omega) k (by omega)
    rw [show n - 1 + 1 = n by omega] at hb
    generalize sumN (fun m => (pT true n (i * m % n)).1 * (pT false n (k * m % n)).1 - (pT true n (i * m % n)).2 * (pT false n (k * m % n)).2) n = D at *
    have := ab (hg i).1 (hg i).2 hb.1 hb.2
    rw [Int.mul_sub] at this
    by_cases hik : i = k
    · subst hik
      rw [if_pos rfl] at this
      rw [if_pos rfl]
      have e2 : g i * ((n : Int) * 2 ^ 52) = (n : Int) * 4503599627370496 * g i := by rw [Int.mul_comm]; rfl
      rw [e2] at this
      omega
    · rw [if_neg hik, Int.mul_zero] at this
      rw [if_neg (by omega)]
      omega
  have hs := sumN_bd n hd
  rw [sumN_sub, ← e, sumN_pick, if_pos ⟨by omega, by omega⟩] at hs
  rw [Int.toNat_natCast] at hs
  omega

theorem add_t {s t : Option Nat} {a b S T : Int} {k : Nat} (hk : k < 10) (hs : valf .f32 s = some a) (ht : valf .f32 t = some b) (a1 : -((k : Int) * (674309865664 * TT)) ≤ 2 * a - S * TT) (a2 : 2 * a - S * TT ≤ (k : Int) * (674309865664 * TT))
    (b1 : -(399431958720 * TT) ≤ 2 * b - T * TT) (b2 : 2 * b - T * TT ≤ 399431958720 * TT) (b3 : -(378302562562818048 * TT) ≤ b) (b4 : b ≤ 378302562562818048 * TT) (s1 : -((k : Int) * 720575940379279360) ≤ S) (s2 : S ≤ (k : Int) * 720575940379279360) :
    ∃ v, valf .f32 (fop .add .f32 s t) = some v ∧ -(((k + 1 : Nat) : Int) * (674309865664 * TT)) ≤ 2 * v - (S + T) * TT ∧ 2 * v - (S + T) * TT ≤ ((k + 1 : Nat) : Int) * (674309865664 * TT) := by
  have hT := TT_pos
  have hkT : (k : Int) * (674309865664 * TT) ≤ 9 * (674309865664 * TT) := Int.mul_le_mul_of_nonneg_right (by omega) (by omega)
  have h1 := Int.mul_le_mul_of_nonneg_right (show S ≤ 6485183463413514240 by omega) (show 0 ≤ TT by omega)
  have h2 := Int.mul_le_mul_of_nonneg_right (show -6485183463413514240 ≤ S by omega) (show 0 ≤ TT by omega)
  have pB : (2 : Int) ^ (fbits1 .f32 + 2385) = 4611686018427387904 * TT := by rw [N32]; exact e2409
  have hk1 : ((k + 1 : Nat) : Int) * (674309865664 * TT) = (k : Int) * (674309865664 * TT) + 674309865664 * TT := by rw [Int.natCast_add, Int.add_mul]; simp
  rw [Int.add_mul, hk1]
  generalize S * TT = SS at *
  generalize T * TT = RR at *
  generalize (k : Int) * (674309865664 * TT) = u at *
  obtain ⟨v, v1, v2, v3, -⟩ := valf.add (k := .f32) (Q := 2385) hs ht (by rw [L32]; decide) (by decide) (by rw [pB]; omega) (by rw [pB]; omega)
  rw [e2385] at v2 v3
  exact ⟨v, v1, by omega, by omega⟩

theorem list_t {L : List (Option Nat × Option Nat)} {n : Nat} {g : Nat → Int} (h1 : 1 ≤ n) (h2 : n ≤ 10) (hg : ∀ i, -8 ≤ g i ∧ g i ≤ 8) (hl : L.length = n) (hL : ∀ m, m < n → ∃ z, L[m]? = some z ∧ Near n z.1 (zR n m g n) ∧ Near n z.2 (zI n m g n)) :
    ∃ b, impl_ListOf L = some (b, true) ∧ b.length = n ∧ ∀ k, k < n → ∃ y v, b[k]? = some y ∧ valf .f32 y = some v ∧ -(4000000000000 * TT) ≤ v - g k * 2 ^ 2398 ∧ v - g k * 2 ^ 2398 ≤ 4000000000000 * TT := by
  have hT := TT_pos
  have hz : ∀ m, (-5368709120 ≤ zR n m g n ∧ zR n m g n ≤ 5368709120) ∧ -5368709120 ≤ zI n m g n ∧ zI n m g n ≤ 5368709120 := by
    intro m
    have := z_bd (m := m) h1 h2 hg n
    omega
  have e26 : (5368709120 : Int) * 2 ^ 26 = 360287970189639680 := by decide
  have inner : ∀ k, k < n → ∃ z, loopF (fun (s : ((Option Nat × Option Nat) × Int)) => impl_ListOf.s1 L (k : Int) s.1 s.2) ((some 0, some 0), 0) = some (z, (n : Int), false) ∧ ∃ y v, fop .quo .f32 z.1 (fofi .f32 (n : Int)) = y ∧ valf .f32 y = some v ∧ -(4000000000000 * TT) ≤ v - g k * 2 ^ 2398 ∧ v - g k * 2 ^ 2398 ≤ 4000000000000 * TT := by
    intro k hk
    have A := loop_ex (S := Option Nat × Option Nat) (step := fun (s : ((Option Nat × Option Nat) × Int)) => impl_ListOf.s1 L (k : Int) s.1 s.2) (fun s j => (s, (j : Int)))
      (fun j s => (∃ a, valf .f32 s.1 = some a ∧ -((j : Int) * (674309865664 * TT)) ≤ 2 * a - bR n k g j * TT ∧ 2 * a - bR n k g j * TT ≤ (j : Int) * (674309865664 * TT)) ∧ ∃ a, valf .f32 s.2 = some a ∧ -((j : Int) * (674309865664 * TT)) ≤ 2 * a - bI n k g j * TT ∧ 2 * a - bI n k g j * TT ≤ (j : Int) * (674309865664 * TT)) n (fun s => (s, (n : Int), false)) (some 0, some 0)
      ⟨⟨0, zero32, by simp [bR, sumN], by simp [bR, sumN]⟩, 0, zero32, by simp [bI, sumN], by simp [bI, sumN]⟩ (fun m s hm hI => by
        obtain ⟨⟨a, va, a1, a2⟩, b, vb, b1, b2⟩ := hI
        obtain ⟨z, hzm, n1, n2⟩ := hL m hm
        have hj : k * m % n < n := Nat.mod_lt _ (by omega)
        obtain ⟨p, hp, p1, p2⟩ := pT_has false h1 h2 hj
        obtain ⟨⟨r1, r2⟩, i1, i2⟩ := pT_b false h1 h2 hj
        have hkm : k * m ≤ 100 := Nat.le_trans (Nat.mul_le_mul (show k ≤ 10 by omega) (show m ≤ 10 by omega)) (by decide)
        obtain ⟨⟨c1, c2⟩, d1, d2⟩ := hz m
        obtain ⟨y, t, u, y1, y2, y3, ⟨y4, y5⟩, ⟨y6, y7⟩, ⟨y8, y9⟩, ya, yb⟩ := mulc_t h2 n1 n2 c1 c2 d1 d2 p1 p2 r1 r2 i1 i2
        have sb : ∀ j : Nat, (-((j : Int) * 720575940379279360) ≤ bR n k g j ∧ bR n k g j ≤ (j : Int) * 720575940379279360) ∧ -((j : Int) * 720575940379279360) ≤ bI n k g j ∧ bI n k g j ≤ (j : Int) * 720575940379279360 := by
          intro j
          constructor <;> refine sumN_bd j fun m _ => ?_
          all_goals
            have hj : k * m % n < n := Nat.mod_lt _ (by omega)
            obtain ⟨⟨r1, r2⟩, i1, i2⟩ := pT_b false h1 h2 hj
            obtain ⟨⟨c1, c2⟩, d1, d2⟩ := hz m
            have q1 := ab c1 c2 r1 r2
            have q2 := ab d1 d2 i1 i2
            have q3 := ab c1 c2 i1 i2
            have q4 := ab d1 d2 r1 r2
            rw [e26] at q1 q2 q3 q4
            omega
        obtain ⟨⟨sb1, sb2⟩, sb3, sb4⟩ := sb m
        obtain ⟨v1, w1, x1, x2⟩ := add_t (show m < 10 by omega) va y2 a1 a2 y4 y5 y8 y9 sb1 sb2
        obtain ⟨v2, w2, x3, x4⟩ := add_t (show m < 10 by omega) vb y3 b1 b2 y6 y7 ya yb sb3 sb4
        refine ⟨(fop .add .f32 s.1 y.1, fop .add .f32 s.2 y.2), ?_, ⟨v1, w1, x1, x2⟩, v2, w2, x3, x4⟩
        show impl_ListOf.s1 L (k : Int) s (m : Int) = _
        unfold impl_ListOf.s1 impl_share impl_add
        have hn0 : ¬ ((n : Int) = 0) := by omega
        have hw : IntKind.wrap .i64 ((k : Int) * (m : Int)) = ((k * m : Nat) : Int) := by
          rw [← Int.natCast_mul]; exact wrap_small (by omega) (by omega)
        have ht : Int.tmod ((k * m : Nat) : Int) (n : Int) = ((k * m % n : Nat) : Int) := rfl
        rw [if_pos (by simp [hl]; omega), idx_nat, hzm, hl, if_neg hn0, hw, ht]
        have hp' : impl_PhasorOf (fop .quo .f64 (fofi .f64 ((k * m % n : Nat) : Int)) (fofi .f64 (n : Int))) = some p := by simpa using hp
        simp only [some_bind', hp', y1, one_more (show m ≤ 1000000000 by omega)]) (fun s hI => by
        show impl_ListOf.s1 L (k : Int) s (n : Int) = _
        unfold impl_ListOf.s1
        rw [if_neg (by simp [hl])]
        simp [hl])
    obtain ⟨z, A1, ⟨a, va, a1, a2⟩, _⟩ := A
    refine ⟨z, A1, fop .quo .f32 z.1 (fofi .f32 (n : Int)), ?_⟩
    have hb := back_sum h1 h2 hk hg
    have hgk := hg k
    have hbT := Int.mul_le_mul_of_nonneg_right hb.1 (show 0 ≤ TT by omega)
    have hbT2 := Int.mul_le_mul_of_nonneg_right hb.2 (show 0 ≤ TT by omega)
    rw [Int.neg_mul, Int.sub_mul] at hbT
    rw [Int.sub_mul] at hbT2
    have e5 : (n : Int) * 4503599627370496 * g k * TT = (n : Int) * (g k * TT) * 4503599627370496 := by generalize TT = T; ac_rfl
    rw [e5] at hbT hbT2
    have g1 := Int.mul_le_mul_of_nonneg_right hgk.1 (show 0 ≤ TT by omega)
    have g2 := Int.mul_le_mul_of_nonneg_right hgk.2 (show 0 ≤ TT by omega)
    have pC : (2 : Int) ^ (23 + 2379) = 36028797018963968 * TT := e2402
    generalize bR n k g n * TT = u at *
    have hn10 : n = 1 ∨ n = 2 ∨ n = 3 ∨ n = 4 ∨ n = 5 ∨ n = 6 ∨ n = 7 ∨ n = 8 ∨ n = 9 ∨ n = 10 := by omega
    have hav : -((n : Int) * (27021597764222976 * TT)) ≤ a ∧ a ≤ (n : Int) * (27021597764222976 * TT) := by
      generalize g k * TT = gk at *
      rcases hn10 with rfl | rfl | rfl | rfl | rfl | rfl | rfl | rfl | rfl | rfl <;> omega
    have hU := ipow_pos UN
    have hnU : 0 < (n : Int) * 2 ^ UN := Int.mul_pos (by omega) hU
    have hcond : -((n : Int) * 2 ^ UN * 2 ^ (23 + 2379)) ≤ a * 2 ^ UN ∧ a * 2 ^ UN ≤ (n : Int) * 2 ^ UN * 2 ^ (23 + 2379) := by
      rw [Int.mul_right_comm, pC]
      have m1 := Int.mul_le_mul_of_nonneg_right hav.1 (Int.le_of_lt hU)
      have m2 := Int.mul_le_mul_of_nonneg_right hav.2 (Int.le_of_lt hU)
      have m3 : (n : Int) * (27021597764222976 * TT) * 2 ^ UN ≤ (n : Int) * (36028797018963968 * TT) * 2 ^ UN := Int.mul_le_mul_of_nonneg_right (Int.mul_le_mul_of_nonneg_left (by omega) (by omega)) (Int.le_of_lt hU)
      rw [Int.neg_mul] at m1
      omega
    obtain ⟨v, q1, q2, q3⟩ := valf.quo32 (Q := 2379) (Z := 2500) va (fofi32 n (by omega)) hnU (by decide) (by
      have h3 := e2500
      rw [eK]
      rcases hn10 with rfl | rfl | rfl | rfl | rfl | rfl | rfl | rfl | rfl | rfl <;> omega) (by decide) (by decide) hcond.1 hcond.2
    refine ⟨v, rfl, q1, ?_⟩
    rw [e2379] at q2 q3
    have r1 : -((n : Int) * (4294967296 * TT)) ≤ v * n - a := by
      refine Int.le_of_mul_le_mul_right ?_ hU
      rw [Int.neg_mul, Int.sub_mul, Int.mul_right_comm (n : Int), Int.mul_assoc v]
      exact q2
    have r2 : v * n - a ≤ (n : Int) * (4294967296 * TT) := by
      refine Int.le_of_mul_le_mul_right ?_ hU
      rw [Int.sub_mul, Int.mul_right_comm (n : Int), Int.mul_assoc v]
      exact q3
    rw [e2398, Int.mul_left_comm (g k)]
    generalize g k * TT = gk at *
    rcases hn10 with rfl | rfl | rfl | rfl | rfl | rfl | rfl | rfl | rfl | rfl <;> omega
  have B := loop_ex (S := List (Option Nat)) (step := fun (s : ((List (Option Nat)) × Int)) => impl_ListOf.s0 L s.1 s.2) (fun s k => (s, (k : Int))) (fun k s => s.length = k ∧ ∀ m, m < k → ∃ y v, s[m]? = some y ∧ valf .f32 y = some v ∧ -(4000000000000 * TT) ≤ v - g m * 2 ^ 2398 ∧ v - g m * 2 ^ 2398 ≤ 4000000000000 * TT) n (fun s => ((n : Int), false, s)) [] ⟨rfl, fun m hm => by omega⟩ (fun k s hk hI => by
    obtain ⟨z, z1, y, v, z2, z3⟩ := inner k hk
    refine ⟨s ++ [fop .quo .f32 z.1 (fofi .f32 (n : Int))], ?_, by simp [hI.1], fun m hm => ?_⟩
    · show impl_ListOf.s0 L s (k : Int) = _
      unfold impl_ListOf.s0
      rw [if_pos (by simp [hl]; omega), z1, some_bind', hl]
      simp only
      rw [if_pos (by simp; omega), one_more (by omega)]
    · by_cases hmk : m = k
      · subst hmk
        exact ⟨y, v, by rw [List.getElem?_append_right (by omega), hI.1]; simp [z2], z3⟩
      · rw [List.getElem?_append_left (by omega)]
        exact hI.2 m (by omega)) (fun s hI => by
    show impl_ListOf.s0 L s (n : Int) = _
    unfold impl_ListOf.s0
    rw [if_neg (by simp [hl])]
    simp [hl])
  obtain ⟨b, B1, B2, B3⟩ := B
  refine ⟨b, ?_, B2, B3⟩
  unfold impl_ListOf impl_isRecord_complex64 impl_within
  have c1 : (if decide ((L.length : Int) ≥ 1) = true then some (decide ((L.length : Int) ≤ 64)) else some false) = some true := by
    rw [if_pos (by rw [hl]; simp; omega), hl]; simp; omega
  have B1' : loopF (fun (s : ((List (Option Nat)) × Int)) => impl_ListOf.s0 L s.1 s.2) (([] : List (Option Nat)), 0) = _ := B1
  rw [c1]
  simp only [some_bind', Bool.not_true, Bool.false_eq_true, if_false, B1']
end Go.H
