/- Shares of modes: sums of products of modes, gaps. -/
import Derived.Test.YtmgoblppedmdhaaPShar3
set_option linter.unusedVariables false
set_option linter.unusedSectionVars false
namespace Go.H
open Go Ieee

theorem sumN_cat (F : Nat → Int) (a : Nat) : ∀ b, sumN F (a + b) = sumN F a + sumN (fun k => F (a + k)) b
  | 0 => by rw [Nat.add_zero, sumN, Int.add_zero]
  | b + 1 => by rw [← Nat.add_assoc, sumN, sumN, sumN_cat F a b]; omega
theorem sumN_rows (F : Nat → Int) (w : Nat) : ∀ h, sumN F (w * h) = sumN (fun y => sumN (fun x => F (x + w * y)) w) h
  | 0 => rfl
  | h + 1 => by
    rw [Nat.mul_succ, sumN_cat, sumN, sumN_rows F w h]
    congr 1
    exact sumN_congr w fun k _ => by rw [Nat.add_comm]
theorem sumN_front (F : Nat → Int) (n : Nat) : sumN F (n + 1) = F 0 + sumN (fun k => F (k + 1)) n := by
  rw [Nat.add_comm, sumN_cat]
  have e : (fun k => F (1 + k)) = fun k => F (k + 1) := funext fun k => by rw [Nat.add_comm]
  rw [e]
  simp [sumN]
theorem sumN_rim {F : Nat → Int} (u : Nat) (h0 : F 0 = 0) (h1 : F (u + 1) = 0) : sumN F (u + 2) = sumN (fun k => F (k + 1)) u := by
  rw [sumN, sumN_front, h0, h1]; omega

/-- the products of two modes' sines in one direction -/
def dotS (N m p : Nat) : Int := sumN (fun x => sT N (m * (x + 1)) * sT N (p * (x + 1))) (N - 1)

theorem mode_dot {u v m n p q : Nat} : sumN (fun i => pV (u + 2) (v + 2) m n i * pV (u + 2) (v + 2) p q i) ((u + 2) * (v + 2)) = dotS (u + 1) m p * dotS (v + 1) n q := by
  have rimx : ∀ x y : Nat, x < u + 2 → (x = 0 ∨ x = u + 1 ∨ y = 0 ∨ y = v + 1) → pV (u + 2) (v + 2) m n (x + (u + 2) * y) = 0 := by
    intro x y hx hr
    unfold pV rimB
    rw [cell_mod hx, cell_div hx]
    exact if_pos (decide_eq_true hr)
  have inn : ∀ m n x y : Nat, x < u → y < v → pV (u + 2) (v + 2) m n (x + 1 + (u + 2) * (y + 1)) = sT (u + 1) (m * (x + 1)) * sT (v + 1) (n * (y + 1)) := by
    intro m n x y hx hy
    have hx2 : x + 1 < u + 2 := by omega
    unfold pV rimB
    rw [cell_mod hx2, cell_div hx2, if_neg (by rw [decide_eq_true_eq]; omega)]
    rfl
  rw [sumN_rows, sumN_rim v (by
    rw [sumN_congr (G := fun _ => 0) (u + 2) fun x hx => by rw [rimx x 0 hx (.inr (.inr (.inl rfl))), Int.zero_mul], sumN_zero]) (by
    rw [sumN_congr (G := fun _ => 0) (u + 2) fun x hx => by rw [rimx x (v + 1) hx (.inr (.inr (.inr rfl))), Int.zero_mul], sumN_zero])]
  have row : ∀ y, y < v → sumN (fun x => pV (u + 2) (v + 2) m n (x + (u + 2) * (y + 1)) * pV (u + 2) (v + 2) p q (x + (u + 2) * (y + 1))) (u + 2) = dotS (u + 1) m p * (sT (v + 1) (n * (y + 1)) * sT (v + 1) (q * (y + 1))) := by
    intro y hy
    rw [sumN_rim u (by rw [rimx 0 (y + 1) (by omega) (.inl rfl), Int.zero_mul]) (by rw [rimx (u + 1) (y + 1) (by omega) (.inr (.inl rfl)), Int.zero_mul])]
    rw [sumN_congr (G := fun x => (sT (v + 1) (n * (y + 1)) * sT (v + 1) (q * (y + 1))) * (sT (u + 1) (m * (x + 1)) * sT (u + 1) (p * (x + 1)))) u fun x hx => by
      rw [inn m n x y hx hy, inn p q x y hx hy]
      generalize sT (u + 1) (m * (x + 1)) = a
      generalize sT (v + 1) (n * (y + 1)) = b
      generalize sT (u + 1) (p * (x + 1)) = c
      generalize sT (v + 1) (q * (y + 1)) = d
      rw [mul4, Int.mul_comm (a * c)], sumN_mul, Int.mul_comm]
    rfl
  rw [sumN_congr v row, sumN_mul]
  rfl

theorem dot_same {N m : Nat} (h1 : 3 ≤ N) (h2 : N ≤ 7) (m1 : 1 ≤ m) (m2 : m < N) : 3 * 2 ^ 51 ≤ dotS N m m ∧ dotS N m m ≤ 2 ^ 54 := by
  have h := sin_norm (N - 3) (by omega) (m - 1) (by omega)
  rw [show N - 3 + 3 = N by omega, show m - 1 + 1 = m by omega, show N - 3 + 2 = N - 1 by omega] at h
  exact h
theorem dot_diff {N m p : Nat} (h1 : 3 ≤ N) (h2 : N ≤ 7) (m1 : 1 ≤ m) (m2 : m < N) (p1 : 1 ≤ p) (p2 : p < N) (hd : m ≠ p) : -(2 ^ 32) ≤ dotS N m p ∧ dotS N m p ≤ 2 ^ 32 := by
  have h := sin_orth (N - 3) (by omega) (m - 1) (by omega) (p - 1) (by omega) (by omega)
  rw [show N - 3 + 3 = N by omega, show m - 1 + 1 = m by omega, show p - 1 + 1 = p by omega, show N - 3 + 2 = N - 1 by omega] at h
  exact h
theorem dot_bd {N m p : Nat} (h1 : 3 ≤ N) (h2 : N ≤ 7) (m1 : 1 ≤ m) (m2 : m < N) (p1 : 1 ≤ p) (p2 : p < N) : -(2 ^ 54) ≤ dotS N m p ∧ dotS N m p ≤ 2 ^ 54 := by
  by_cases hd : m = p
  · subst hd
    have := dot_same h1 h2 m1 m2
    omega
  · have := dot_diff h1 h2 m1 m2 p1 p2 hd
    omega

/-- the products of two modes, in units -/
def modS (w h m n p q : Nat) : Int := 2 ^ 2292 * (dotS (w - 1) m p * dotS (h - 1) n q)

section
variable {w h m n p q : Nat} (w1 : 4 ≤ w) (w2 : w ≤ 8) (k1 : 4 ≤ h) (k2 : h ≤ 8) (m1 : 1 ≤ m) (m2 : m ≤ w - 2) (n1 : 1 ≤ n) (n2 : n ≤ h - 2) (p1 : 1 ≤ p) (p2 : p ≤ w - 2) (q1 : 1 ≤ q) (q2 : q ≤ h - 2)
include w1 w2 k1 k2 m1 m2 n1 n2

theorem modS_same : 20266198323167232 * TT ≤ 16 * modS w h m n m n := by
  have a := dot_same (N := w - 1) (m := m) (by omega) (by omega) m1 (by omega)
  have b := dot_same (N := h - 1) (m := n) (by omega) (by omega) n1 (by omega)
  unfold modS
  generalize dotS (w - 1) m m = x at *
  generalize dotS (h - 1) n n = y at *
  have h1 : 3 * 2 ^ 51 * (3 * 2 ^ 51) ≤ x * y := Int.le_trans (Int.mul_le_mul_of_nonneg_right a.1 (by decide)) (Int.mul_le_mul_of_nonneg_left b.1 (by omega))
  have h2 := Int.mul_le_mul_of_nonneg_left h1 (inonneg 2292)
  have e : 20266198323167232 * TT = 16 * (2 ^ 2292 * (3 * 2 ^ 51 * (3 * 2 ^ 51))) := by unfold TT; decide +kernel
  rw [e]
  generalize (2 : Int) ^ 2292 * (x * y) = u at *
  generalize (2 : Int) ^ 2292 * (3 * 2 ^ 51 * (3 * 2 ^ 51)) = v at *
  omega

include p1 p2 q1 q2
theorem modS_diff (hd : m ≠ p ∨ n ≠ q) : -(2147483648 * TT) ≤ modS w h m n p q ∧ modS w h m n p q ≤ 2147483648 * TT := by
  have a := dot_bd (N := w - 1) (m := m) (p := p) (by omega) (by omega) m1 (by omega) p1 (by omega)
  have b := dot_bd (N := h - 1) (m := n) (p := q) (by omega) (by omega) n1 (by omega) q1 (by omega)
  have hp := inonneg 2292
  have e : 2147483648 * TT = 2 ^ 2292 * (2 ^ 32 * 2 ^ 54) := by unfold TT; decide +kernel
  unfold modS
  rw [e]
  have key : -(2 ^ 32 * 2 ^ 54) ≤ dotS (w - 1) m p * dotS (h - 1) n q ∧ dotS (w - 1) m p * dotS (h - 1) n q ≤ 2 ^ 32 * 2 ^ 54 := by
    rcases hd with hd | hd
    · have c := dot_diff (N := w - 1) (m := m) (p := p) (by omega) (by omega) m1 (by omega) p1 (by omega) hd
      exact ab c.1 c.2 b.1 b.2
    · have c := dot_diff (N := h - 1) (m := n) (p := q) (by omega) (by omega) n1 (by omega) q1 (by omega) hd
      rw [Int.mul_comm (dotS (w - 1) m p)]
      exact ab c.1 c.2 a.1 a.2
  have h1 := Int.mul_le_mul_of_nonneg_left key.1 hp
  have h2 := Int.mul_le_mul_of_nonneg_left key.2 hp
  rw [Int.mul_neg] at h1
  exact ⟨h1, h2⟩

theorem sum_est {e g : Nat → Int} {zz : Int} (z1 : -6 ≤ zz) (z2 : zz ≤ 6) (hA : ∀ i, i < w * h → prd (e i) (g i) * 2 ^ UN = e i * g i) (he : ∀ i, i < w * h → -(1073741824 * TT) ≤ e i - zz * pV w h m n i * 2 ^ 2346 ∧ e i - zz * pV w h m n i * 2 ^ 2346 ≤ 1073741824 * TT)
    (hg : ∀ i, i < w * h → -(536870912 * TT) ≤ g i - 4 * pV w h p q i * 2 ^ 2346 ∧ g i - 4 * pV w h p q i * 2 ^ 2346 ≤ 536870912 * TT) (g1 : ∀ i, i < w * h → -(2 ^ UN) ≤ g i ∧ g i ≤ 2 ^ UN) :
    -(137438953472 * TT) ≤ sumN (fun i => prd (e i) (g i)) (w * h) - 4 * zz * modS w h m n p q ∧ sumN (fun i => prd (e i) (g i)) (w * h) - 4 * zz * modS w h m n p q ≤ 137438953472 * TT := by
  have hT := TT_pos
  have hn : w * h ≤ 64 := Nat.le_trans (Nat.mul_le_mul w2 k2) (by decide)
  have cell : ∀ i, i < w * h → -(2147483648 * TT) ≤ prd (e i) (g i) - 4 * zz * 2 ^ 2292 * (pV w h m n i * pV w h p q i) ∧ prd (e i) (g i) - 4 * zz * 2 ^ 2292 * (pV w h m n i * pV w h p q i) ≤ 2147483648 * TT := by
    intro i hi
    have hP := pV_bd (by omega) w2 (by omega) k2 w1 k1 m1 m2 n1 n2 hi
    have a := hA i hi
    have b := he i hi
    have c := hg i hi
    have d := g1 i hi
    generalize pV w h m n i = P at *
    generalize pV w h p q i = R at *
    generalize prd (e i) (g i) = D at *
    generalize e i = x at *
    generalize g i = y at *
    have pw : (2 : Int) ^ 2292 * 2 ^ UN = 2 ^ 2346 * 2 ^ 2346 := by unfold UN; decide +kernel
    have hF0 := ab z1 z2 hP.1 hP.2
    have hp := inonneg 2346
    have e6 : 6 * (2 ^ 26 * 2 ^ 26) * (2 : Int) ^ 2346 ≤ 18014398509481984 * TT := by unfold TT; decide +kernel
    have f1 := Int.mul_le_mul_of_nonneg_right hF0.1 hp
    have f2 := Int.mul_le_mul_of_nonneg_right hF0.2 hp
    rw [Int.neg_mul] at f1
    have s1 := ab b.1 b.2 d.1 d.2
    have s2 := ab (a := zz * P * 2 ^ 2346) (A := 18014398509481984 * TT) (by omega) (by omega) c.1 c.2
    have key : (D - 4 * zz * 2 ^ 2292 * (P * R)) * 2 ^ UN = (x - zz * P * 2 ^ 2346) * y + zz * P * 2 ^ 2346 * (y - 4 * R * 2 ^ 2346) := by
      rw [Int.sub_mul, a, Int.sub_mul, Int.mul_sub]
      have : 4 * zz * 2 ^ 2292 * (P * R) * 2 ^ UN = zz * P * 2 ^ 2346 * (4 * R * 2 ^ 2346) := by
        have e1 : 4 * zz * 2 ^ 2292 * (P * R) * 2 ^ UN = 4 * zz * (P * R) * (2 ^ 2292 * 2 ^ UN) := by
          generalize (2 : Int) ^ 2292 = u
          generalize (2 : Int) ^ UN = v
          ac_rfl
        rw [e1, pw]
        generalize (2 : Int) ^ 2346 = u
        ac_rfl
      omega
    have e7 : 1073741824 * TT * 2 ^ UN + 18014398509481984 * TT * (536870912 * TT) = 2147483648 * TT * 2 ^ UN := by
      rw [eK, mul4 1073741824 TT 9007199254740992 TT, mul4 18014398509481984 TT 536870912 TT, mul4 2147483648 TT 9007199254740992 TT]
      clear s1 s2 f1 f2 e6 hF0 pw key
      omega
    have hU := ipow_pos UN
    generalize (x - zz * P * 2 ^ 2346) * y = X at *
    generalize zz * P * 2 ^ 2346 * (y - 4 * R * 2 ^ 2346) = Y at *
    have g1' : -(2147483648 * TT * 2 ^ UN) ≤ X + Y ∧ X + Y ≤ 2147483648 * TT * 2 ^ UN := by
      rw [← e7]
      generalize 1073741824 * TT * 2 ^ UN = M1 at *
      generalize 18014398509481984 * TT * (536870912 * TT) = M2 at *
      clear key f1 f2 e6 hF0 pw
      omega
    constructor
    · refine Int.le_of_mul_le_mul_right ?_ hU
      rw [key, Int.neg_mul]
      exact g1'.1
    · refine Int.le_of_mul_le_mul_right ?_ hU
      rw [key]
      exact g1'.2
  have hs := sumN_bd (w * h) cell
  rw [sumN_sub, sumN_mul] at hs
  obtain ⟨u, rfl⟩ : ∃ u, w = u + 2 := ⟨w - 2, by omega⟩
  obtain ⟨v, rfl⟩ : ∃ v, h = v + 2 := ⟨h - 2, by omega⟩
  rw [mode_dot] at hs
  have hm : 4 * zz * modS (u + 2) (v + 2) m n p q = 4 * zz * 2 ^ 2292 * (dotS (u + 1) m p * dotS (v + 1) n q) := by
    unfold modS
    rw [← Int.mul_assoc]
    rfl
  rw [hm]
  have hnT : (((u + 2) * (v + 2) : Nat) : Int) * (2147483648 * TT) ≤ 64 * (2147483648 * TT) := Int.mul_le_mul_of_nonneg_right (by omega) (by omega)
  generalize (((u + 2) * (v + 2) : Nat) : Int) * (2147483648 * TT) = k at *
  omega
end

/-- the greater of two numbers is one of them -/
theorem valf.fmax {k : FloatKind} {x y : Option Nat} {a b : Int} (hx : valf k x = some a) (hy : valf k y = some b) : ∃ v, valf k (Go.H.fmax k x y) = some v ∧ (v = a ∨ v = b) := by
  have ho := valf.order hx hy
  cases x with
  | none => cases hx
  | some c => cases y with
    | none => cases hy
    | some d =>
      have ho' : k.format.order c d = some (compare a b) := ho
      have e : Go.H.fmax k (some c) (some d) = match k.format.order c d with
        | none => none
        | some .lt => some d
        | some .gt => some c
        | some .eq => some (if (k.decode c).neg then d else c) := rfl
      rw [e, ho']
      cases compare a b with
      | lt => exact ⟨b, hy, .inr rfl⟩
      | gt => exact ⟨a, hx, .inl rfl⟩
      | eq =>
        by_cases hn : (k.decode c).neg = true
        · simp only [hn, if_true]; exact ⟨b, hy, .inr rfl⟩
        · simp only [hn]; exact ⟨a, hx, .inl rfl⟩

theorem milli2 : ∃ K, valf .f64 (some 4562254508917369340) = some K ∧ 8796093022208 * TT < K := by
  have h : (match valf .f64 (some 4562254508917369340) with | some K => decide ((2 : Int) ^ 2390 < K) | none => false) = true := by decide +kernel
  rw [← e2390]
  cases hK : valf .f64 (some 4562254508917369340) with
  | none => rw [hK] at h; cases h
  | some K => rw [hK] at h; exact ⟨K, rfl, of_decide_eq_true h⟩

theorem gap_ok {x y : Option Nat} {a b : Int} (hx : valf .f64 x = some a) (hy : valf .f64 y = some b) (d1 : -(8000000000000 * TT) ≤ a - b) (d2 : a - b ≤ 8000000000000 * TT) :
    ∃ z, laws_r8Gap x y = some z ∧ fcmp .gtr .f64 z (some 4562254508917369340) = false ∧ fcmp .lss .f64 z (some 4562254508917369340) = true := by
  have hT := TT_pos
  have hL : FloatKind.f64.format.leastPlace = -1074 := by decide
  have pK : (2 : Int) ^ (fbits1 .f64 + 2347) = 9007199254740992 * TT := by rw [show fbits1 .f64 = 53 by decide]; exact e2400
  obtain ⟨u, u1, u2, u3, -⟩ := valf.sub hx hy (Q := 2347) (by rw [hL]; decide) (by decide) (by rw [pK]; omega) (by rw [pK]; omega)
  obtain ⟨v, v1, v2, v3, -⟩ := valf.sub hy hx (Q := 2347) (by rw [hL]; decide) (by decide) (by rw [pK]; omega) (by rw [pK]; omega)
  rw [e2347] at u2 u3 v2 v3
  obtain ⟨z, z1, z2⟩ := valf.fmax u1 v1
  obtain ⟨K, k1, k2⟩ := milli2
  refine ⟨_, rfl, ?_, ?_⟩
  · rw [valf.gtr z1 k1]; exact decide_eq_false (by omega)
  · rw [valf.lss z1 k1]; exact decide_eq_true (by omega)
end Go.H
