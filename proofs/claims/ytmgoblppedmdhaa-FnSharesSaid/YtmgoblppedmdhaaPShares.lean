/- The law of shares of modes. -/
import Derived.Test.YtmgoblppedmdhaaPShar4
import Derived.Test.YtmgoblppedmdhaaPRec
set_option linter.unusedVariables false
set_option linter.unusedSectionVars false
namespace Go.H
open Go Ieee

theorem z_three : valf .f32 (some 1069547520) = some (6 * 2 ^ 2398) := by decide +kernel
theorem z_one : valf .f32 (some 1065353216) = some (4 * 2 ^ 2398) := by decide +kernel
theorem z_half : valf .f32 (some 3204448256) = some (-2 * 2 ^ 2398) := by decide +kernel
theorem f_three : impl_IsFinite (some 1069547520) = some true := by unfold impl_IsFinite; decide +kernel
theorem f_one : impl_IsFinite (some 1065353216) = some true := by unfold impl_IsFinite; decide +kernel
theorem f_half : impl_IsFinite (some 3204448256) = some true := by unfold impl_IsFinite; decide +kernel
theorem w_three : valf .f64 (some 4609434218613702656) = some (13510798882111488 * TT) := by
  have h : valf .f64 (some 4609434218613702656) = some (3 * 2 ^ 2399) := by decide +kernel
  have e : (3 : Int) * 2 ^ 2399 = 13510798882111488 * TT := by unfold TT; decide +kernel
  rw [h, e]

/-- what is told of a share: a bound on the values' sum is one on the share -/
theorem share_bd {v A B x c d : Int} (k0 : Int) (hk : 0 ≤ k0) (hd : d = 1 ∨ d = 2) (hB : 2 * (9007199254740992 * TT) ≤ B) (h1 : -(k0 * (TT * B)) ≤ v * B - A * 2 ^ UN) (h2 : v * B - A * 2 ^ UN ≤ k0 * (TT * B)) (a1 : -(2 * (c * TT)) ≤ d * A - x * B) (a2 : d * A - x * B ≤ 2 * (c * TT)) :
    -((2 * k0 + c) * TT) ≤ d * v - x * 2 ^ UN ∧ d * v - x * 2 ^ UN ≤ (2 * k0 + c) * TT := by
  have hT := TT_pos
  have hB0 : 0 < B := by omega
  have hTB : 0 ≤ TT * B := Int.mul_nonneg (by omega) (by omega)
  have hU := ipow_pos UN
  have m := ab a1 a2 (b := (2 : Int) ^ UN) (B := 2 ^ UN) (by omega) (Int.le_refl _)
  have hc : 0 ≤ c * TT := by omega
  have n1 : 2 * (c * TT) * 2 ^ UN ≤ c * (TT * B) := by
    have := Int.mul_le_mul_of_nonneg_left hB hc
    rw [eK]
    have e1 : 2 * (c * TT) * (9007199254740992 * TT) = c * TT * (2 * (9007199254740992 * TT)) := by
      generalize c * TT = u
      generalize 9007199254740992 * TT = z
      ac_rfl
    rw [e1, ← Int.mul_assoc c TT B]
    exact this
  have key : (d * v - x * 2 ^ UN) * B = d * (v * B - A * 2 ^ UN) + (d * A - x * B) * 2 ^ UN := by
    rw [Int.sub_mul, Int.sub_mul, Int.mul_sub, Int.mul_right_comm x B, Int.mul_assoc d v, Int.mul_assoc d A]
    omega
  have n2 : (2 * k0 + c) * TT * B = 2 * (k0 * (TT * B)) + c * (TT * B) := by
    rw [Int.mul_assoc, Int.add_mul, Int.mul_assoc 2]
  have hk2 : 0 ≤ k0 * (TT * B) := Int.mul_nonneg hk hTB
  have n3 : -(2 * (k0 * (TT * B))) ≤ d * (v * B - A * 2 ^ UN) ∧ d * (v * B - A * 2 ^ UN) ≤ 2 * (k0 * (TT * B)) := by
    rcases hd with rfl | rfl <;> omega
  constructor
  · refine Int.le_of_mul_le_mul_right ?_ hB0
    rw [key, Int.neg_mul, n2]
    omega
  · refine Int.le_of_mul_le_mul_right ?_ hB0
    rw [key, n2]
    omega

theorem e2353 : (2 : Int) ^ 2353 = 64 * TT := by unfold TT; decide +kernel
theorem e2406 : (2 : Int) ^ 2406 = 576460752303423488 * TT := by unfold TT; decide +kernel

theorem shares_ok {w h m n p q : Nat} (w1 : 4 ≤ w) (w2 : w ≤ 8) (k1 : 4 ≤ h) (k2 : h ≤ 8) (m1 : 1 ≤ m) (m2 : m ≤ w - 2) (n1 : 1 ≤ n) (n2 : n ≤ h - 2) (p1 : 1 ≤ p) (p2 : p ≤ w - 2) (q1 : 1 ≤ q) (q2 : q ≤ h - 2)
    {l t : List (Option Nat)} (hv : impl_ValidSheet w h false l t = some true) :
    ∃ E X Y G X2 Y2 own other R left S P Q sum part, impl_ModeField w h false l t m n (some 1069547520) = some (E, X, Y, true) ∧ impl_ModeField w h false l t p q (some 3204448256) = some (G, X2, Y2, true) ∧
      impl_ShareOf w h false l t E X Y m n = some (own, true) ∧ impl_ShareOf w h false l t E X Y p q = some (other, true) ∧ impl_WithoutMode w h false l t E X Y m n = some (R, X, Y, true) ∧ impl_ShareOf w h false l t R X Y m n = some (left, true) ∧
      impl_AddFields w h false l t E X Y G X2 Y2 = some (S, P, Q, true) ∧ impl_ShareOf w h false l t S P Q m n = some (sum, true) ∧ impl_ShareOf w h false l t G X2 Y2 m n = some (part, true) ∧
      (∃ z, laws_r8Gap (wid own) (some 4609434218613702656) = some z ∧ fcmp .gtr .f64 z (some 4562254508917369340) = false) ∧
      (m ≠ p ∨ n ≠ q → ∃ z, laws_r8Gap (wid other) (some 0) = some z ∧ fcmp .gtr .f64 z (some 4562254508917369340) = false) ∧
      (∃ z, laws_r8Gap (wid left) (some 0) = some z ∧ fcmp .lss .f64 z (some 4562254508917369340) = true) ∧
      (∃ z, laws_r8Gap (wid sum) (fop .add .f64 (wid own) (wid part)) = some z ∧ fcmp .lss .f64 z (some 4562254508917369340) = true) := by
  have hT := TT_pos
  have hn : w * h ≤ 64 := Nat.le_trans (Nat.mul_le_mul w2 k2) (by decide)
  have x1 : (2 : Int) ^ (24 + 2377) = 18014398509481984 * TT := e2401
  have x2 : (2 : Int) ^ (24 + 2376) = 9007199254740992 * TT := e2400
  obtain ⟨E, X, Y, e, -, f2, FE, f4⟩ := mode_ok (by omega) w2 (by omega) k2 hv w1 k1 m1 m2 n1 n2 z_three (.inr ⟨rfl, by decide, by decide⟩) f_three
  obtain ⟨G, XG, YG, g, g1, -, FG, g4⟩ := mode_ok (by omega) w2 (by omega) k2 hv w1 k1 m1 m2 n1 n2 z_one (.inl ⟨rfl, by decide, by decide⟩) f_one
  obtain ⟨G', XG', YG', g', g1', -, FG', g4'⟩ := mode_ok (by omega) w2 (by omega) k2 hv w1 k1 p1 p2 q1 q2 z_one (.inl ⟨rfl, by decide, by decide⟩) f_one
  obtain ⟨H, XH, YH, e2, -, h2, FH, h4⟩ := mode_ok (by omega) w2 (by omega) k2 hv w1 k1 p1 p2 q1 q2 z_half (.inl ⟨rfl, by decide, by decide⟩) f_half
  simp only [e2377, x1] at f4
  simp only [e2376, x2] at g4 g4' h4
  have prod : ∀ {E X Y G X' Y' : List (Option Nat)} {e g : Nat → Int}, FldV w h E X Y e → FldV w h G X' Y' g → ∀ i, i < w * h → prd (e i) (g i) * 2 ^ UN = e i * g i := by
    intro E X Y G X' Y' e g F F' i hi
    obtain ⟨x, _, a⟩ := F.val i hi
    obtain ⟨y, _, b⟩ := F'.val i hi
    exact prd_ok a b
  have gb : ∀ i, i < w * h → -(2 ^ UN) ≤ g i ∧ g i ≤ 2 ^ UN := fun i hi => by rw [eK]; exact (g4 i hi).2.2
  have gb' : ∀ i, i < w * h → -(2 ^ UN) ≤ g' i ∧ g' i ≤ 2 ^ UN := fun i hi => by rw [eK]; exact (g4' i hi).2.2
  have big : ∀ {x : Int}, -(18014398509481984 * TT) ≤ x ∧ x ≤ 18014398509481984 * TT → -(36028797018963968 * TT) ≤ x ∧ x ≤ 36028797018963968 * TT := by intro x hx; omega
  -- the sums
  have s1 := sum_est (zz := 6) w1 w2 k1 k2 m1 m2 n1 n2 m1 m2 n1 n2 (by decide) (by decide) (prod FE FG) (fun i hi => ⟨(f4 i hi).1, (f4 i hi).2.1⟩) (fun i hi => ⟨(g4 i hi).1, (g4 i hi).2.1⟩) gb
  have s2 := sum_est (zz := 4) w1 w2 k1 k2 m1 m2 n1 n2 m1 m2 n1 n2 (by decide) (by decide) (prod FG FG) (fun i hi => by have := g4 i hi; omega) (fun i hi => ⟨(g4 i hi).1, (g4 i hi).2.1⟩) gb
  have s3 := sum_est (zz := 6) w1 w2 k1 k2 m1 m2 n1 n2 p1 p2 q1 q2 (by decide) (by decide) (prod FE FG') (fun i hi => ⟨(f4 i hi).1, (f4 i hi).2.1⟩) (fun i hi => ⟨(g4' i hi).1, (g4' i hi).2.1⟩) gb'
  have s4 := sum_est (zz := 4) w1 w2 k1 k2 p1 p2 q1 q2 p1 p2 q1 q2 (by decide) (by decide) (prod FG' FG') (fun i hi => by have := g4' i hi; omega) (fun i hi => ⟨(g4' i hi).1, (g4' i hi).2.1⟩) gb'
  have s5 := sum_est (zz := -2) w1 w2 k1 k2 p1 p2 q1 q2 m1 m2 n1 n2 (by decide) (by decide) (prod FH FG) (fun i hi => by have := h4 i hi; omega) (fun i hi => ⟨(g4 i hi).1, (g4 i hi).2.1⟩) gb
  have t1 := modS_same w1 w2 k1 k2 m1 m2 n1 n2
  have t2 := modS_same w1 w2 k1 k2 p1 p2 q1 q2
  have t3 : (m = p ∧ n = q ∧ modS w h m n p q = modS w h m n m n ∧ modS w h p q m n = modS w h m n m n ∧ modS w h p q p q = modS w h m n m n) ∨ (-(2147483648 * TT) ≤ modS w h m n p q ∧ modS w h m n p q ≤ 2147483648 * TT ∧ -(2147483648 * TT) ≤ modS w h p q m n ∧ modS w h p q m n ≤ 2147483648 * TT) := by
    by_cases hd : m ≠ p ∨ n ≠ q
    · right
      have a := modS_diff w1 w2 k1 k2 m1 m2 n1 n2 p1 p2 q1 q2 hd
      have b := modS_diff w1 w2 k1 k2 p1 p2 q1 q2 m1 m2 n1 n2 (by omega)
      exact ⟨a.1, a.2, b.1, b.2⟩
    · left
      obtain ⟨rfl, rfl⟩ : m = p ∧ n = q := by omega
      exact ⟨rfl, rfl, rfl, rfl, rfl⟩
  generalize modS w h m n m n = S1 at *
  generalize modS w h m n p q = S2 at *
  generalize modS w h p q p q = S3 at *
  generalize modS w h p q m n = S4 at *
  generalize hA1 : sumN (fun i => prd (e i) (g i)) (w * h) = A1 at *
  generalize hB1 : sumN (fun i => prd (g i) (g i)) (w * h) = B at *
  generalize hA2 : sumN (fun i => prd (e i) (g' i)) (w * h) = A2 at *
  generalize hB2 : sumN (fun i => prd (g' i) (g' i)) (w * h) = B' at *
  generalize hA3 : sumN (fun i => prd (e2 i) (g i)) (w * h) = A3 at *
  have bB : 2 * (9007199254740992 * TT) ≤ B := by omega
  have bB' : 2 * (9007199254740992 * TT) ≤ B' := by omega
  have eb : ∀ i, i < w * h → -(36028797018963968 * TT) ≤ e i ∧ e i ≤ 36028797018963968 * TT := fun i hi => big (f4 i hi).2.2
  -- its own
  obtain ⟨own, v, o1, o2, o3, o4⟩ := share_ok w1 w2 k1 k2 hv m1 m2 n1 n2 FE g1 FG eb gb hA1 hB1 bB (by omega) (by omega)
  have ob := share_bd (d := 2) (x := 3) (c := 343597383680) 4294967296 (by decide) (.inr rfl) bB o3 o4 (by omega) (by omega)
  -- another
  obtain ⟨other, vo, u1, u2, u3, u4⟩ := share_ok w1 w2 k1 k2 hv p1 p2 q1 q2 FE g1' FG' eb gb' hA2 hB2 bB' (by omega) (by omega)
  -- without it
  rw [eK] at ob
  obtain ⟨R, r, r1, FR, r3⟩ := without_ok w1 w2 k1 k2 hv FE g1 FG (fun i hi => (f4 i hi).2.2) gb o1 o2 (by omega) (by omega)
  have rb : ∀ i, i < w * h → -(179583320064 * TT) ≤ r i ∧ r i ≤ 179583320064 * TT := by
    intro i hi
    obtain ⟨a1, a2, a3⟩ := r3 i hi
    obtain ⟨b1, b2, -⟩ := f4 i hi
    obtain ⟨c1, c2, -⟩ := g4 i hi
    have hd : (2 * prd v (g i) - 3 * g i) * 2 ^ UN = (2 * v - 3 * 2 ^ UN) * g i := by
      rw [Int.sub_mul, Int.sub_mul, Int.mul_assoc 2, a3, Int.mul_assoc 2, Int.mul_assoc 3, Int.mul_assoc 3, Int.mul_comm (g i)]
    have hb := prod_le hd (C := 352187318272 * TT) (by rw [eK]; omega) (by rw [eK]; omega) (gb i hi).1 (gb i hi).2
    rw [Int.mul_assoc] at b1 b2 c1 c2
    generalize pV w h m n i * 2 ^ 2346 = u at *
    generalize prd v (g i) = y at *
    generalize e i = ei at *
    generalize g i = gi at *
    generalize r i = ri at *
    omega
  have pR := prod FR FG
  have sR := sumN_bd (F := fun i => prd (r i) (g i)) (B := 179583320064 * TT) (w * h) (fun i hi => prod_le (pR i hi) (rb i hi).1 (rb i hi).2 (gb i hi).1 (gb i hi).2)
  have hnR : ((w * h : Nat) : Int) * (179583320064 * TT) ≤ 64 * (179583320064 * TT) := Int.mul_le_mul_of_nonneg_right (by omega) (by omega)
  generalize hA4 : sumN (fun i => prd (r i) (g i)) (w * h) = A4 at *
  obtain ⟨left, vl, l1, l2, l3, l4⟩ := share_ok w1 w2 k1 k2 hv m1 m2 n1 n2 FR g1 FG (fun i hi => by have := rb i hi; omega) gb hA4 hB1 bB (by omega) (by omega)
  have lb := share_bd (d := 1) (x := 0) (c := 5746666242048) 4294967296 (by decide) (.inl rfl) bB l3 l4 (by omega) (by omega)
  -- the sum
  obtain ⟨S, P, Q, s, a1, FS, a3⟩ := add_ok w1 w2 k1 k2 hv FE FH (fun i hi => by have := f4 i hi; have := h4 i hi; omega)
  have pS := prod FS FG
  have pE := prod FE FG
  have pH := prod FH FG
  have sS := sumN_bd (F := fun i => prd (s i) (g i) - (prd (e i) (g i) + prd (e2 i) (g i))) (B := 1073741824 * TT) (w * h) (fun i hi => by
    refine prod_le (e := s i - (e i + e2 i)) (g := g i) ?_ (a3 i hi).1 (a3 i hi).2.1 (gb i hi).1 (gb i hi).2
    rw [Int.sub_mul, Int.add_mul, pS i hi, pE i hi, pH i hi, Int.sub_mul, Int.add_mul])
  rw [sumN_sub, sumN_add, hA1, hA3] at sS
  have hnS : ((w * h : Nat) : Int) * (1073741824 * TT) ≤ 64 * (1073741824 * TT) := Int.mul_le_mul_of_nonneg_right (by omega) (by omega)
  generalize hA5 : sumN (fun i => prd (s i) (g i)) (w * h) = A5 at *
  obtain ⟨sum, vs, c1, c2, c3, c4⟩ := share_ok w1 w2 k1 k2 hv m1 m2 n1 n2 FS g1 FG (fun i hi => (a3 i hi).2.2) gb hA5 hB1 bB (by omega) (by omega)
  -- the part
  obtain ⟨part, vp, d1, d2, d3, d4⟩ := share_ok w1 w2 k1 k2 hv m1 m2 n1 n2 FH g1 FG (fun i hi => by have := h4 i hi; omega) gb hA3 hB1 bB (by omega) (by omega)
  have sH := sumN_bd (F := fun i => prd (e2 i) (g i)) (B := 9007199254740992 * TT) (w * h) (fun i hi => prod_le (pH i hi) (h4 i hi).2.2.1 (h4 i hi).2.2.2 (gb i hi).1 (gb i hi).2)
  have hnH : ((w * h : Nat) : Int) * (9007199254740992 * TT) ≤ 64 * (9007199254740992 * TT) := Int.mul_le_mul_of_nonneg_right (by omega) (by omega)
  rw [hA3] at sH
  have pb := share_bd (d := 1) (x := 0) (c := 288230376151711744) 4294967296 (by decide) (.inl rfl) bB d3 d4 (by omega) (by omega)
  have all := share_bd (v := vs - v - vp) (A := A5 - A1 - A3) (d := 1) (x := 0) (c := 34359738368) 12884901888 (by decide) (.inl rfl) bB (by rw [Int.sub_mul, Int.sub_mul, Int.sub_mul, Int.sub_mul]; omega) (by rw [Int.sub_mul, Int.sub_mul, Int.sub_mul, Int.sub_mul]; omega) (by omega) (by omega)
  have hL : FloatKind.f64.format.leastPlace = -1074 := by decide
  have pK : (2 : Int) ^ (fbits1 .f64 + 2353) = 576460752303423488 * TT := by rw [show fbits1 .f64 = 53 by decide]; exact e2406
  obtain ⟨y, y1, y2, y3, -⟩ := valf.add (valf.wid o2) (valf.wid d2) (Q := 2353) (by rw [hL]; decide) (by decide) (by rw [pK]; omega) (by rw [pK]; omega)
  rw [e2353] at y2 y3
  refine ⟨E, X, Y, H, XH, YH, own, other, R, left, S, P, Q, sum, part, f2, h2, o1, u1, r1, l1, a1, c1, d1, ?_, fun hd => ?_, ?_, ?_⟩
  · obtain ⟨z, z1, z2, -⟩ := gap_ok (valf.wid o2) w_three (by omega) (by omega)
    exact ⟨z, z1, z2⟩
  · have ub := share_bd (d := 1) (x := 0) (c := 1030792151040) 4294967296 (by decide) (.inl rfl) bB' u3 u4 (by omega) (by omega)
    obtain ⟨z, z1, z2, -⟩ := gap_ok (valf.wid u2) zero_f64 (by omega) (by omega)
    exact ⟨z, z1, z2⟩
  · obtain ⟨z, z1, -, z2⟩ := gap_ok (valf.wid l2) zero_f64 (by omega) (by omega)
    exact ⟨z, z1, z2⟩
  · obtain ⟨z, z1, -, z2⟩ := gap_ok (valf.wid c2) y1 (by omega) (by omega)
    exact ⟨z, z1, z2⟩

theorem laws_FnShares_true (a0 a1 : List Int) (h0 : ∀ x ∈ a0, 0 ≤ x ∧ x ≤ 255) (h1 : ∀ x ∈ a1, 0 ≤ x ∧ x ≤ 255) : laws_FnShares a0 a1 = some true := by
  unfold laws_FnShares laws_r8Long
  simp only [some_bind', ite_orB]
  cases (decide ((a0.length : Int) > 48) || decide ((a1.length : Int) > 48)) with
  | true => rfl
  | false =>
    obtain ⟨x, e1, x1, x2⟩ := r8At_ok h0 0 5 (by omega)
    obtain ⟨x, rfl⟩ := Int.eq_ofNat_of_zero_le x1
    obtain ⟨y, e2, y1, y2⟩ := r8At_ok h0 1 5 (by omega)
    obtain ⟨y, rfl⟩ := Int.eq_ofNat_of_zero_le y1
    have hw : IntKind.wrap .i64 (4 + (x : Int)) = ((4 + x : Nat) : Int) := by rw [wrap_small (by omega) (by omega)]; rfl
    have hh : IntKind.wrap .i64 (4 + (y : Int)) = ((4 + y : Nat) : Int) := by rw [wrap_small (by omega) (by omega)]; rfl
    have hw2 : IntKind.wrap .i64 (((4 + x : Nat) : Int) - 2) = ((2 + x : Nat) : Int) := by rw [wrap_small (by omega) (by omega)]; omega
    have hh2 : IntKind.wrap .i64 (((4 + y : Nat) : Int) - 2) = ((2 + y : Nat) : Int) := by rw [wrap_small (by omega) (by omega)]; omega
    obtain ⟨m, e3, m1, m2⟩ := r8At_ok h0 2 ((2 + x : Nat) : Int) (by omega)
    obtain ⟨m, rfl⟩ := Int.eq_ofNat_of_zero_le m1
    obtain ⟨n, e4, n1, n2⟩ := r8At_ok h0 3 ((2 + y : Nat) : Int) (by omega)
    obtain ⟨n, rfl⟩ := Int.eq_ofNat_of_zero_le n1
    obtain ⟨p, e5, p1, p2⟩ := r8At_ok h0 4 ((2 + x : Nat) : Int) (by omega)
    obtain ⟨p, rfl⟩ := Int.eq_ofNat_of_zero_le p1
    obtain ⟨q, e6, q1, q2⟩ := r8At_ok h0 5 ((2 + y : Nat) : Int) (by omega)
    obtain ⟨q, rfl⟩ := Int.eq_ofNat_of_zero_le q1
    have hm : ∀ a : Nat, a ≤ 100 → IntKind.wrap .i64 (1 + (a : Int)) = ((1 + a : Nat) : Int) := fun a ha => by rw [wrap_small (by omega) (by omega)]; rfl
    obtain ⟨E, X, Y, G, X2, Y2, own, other, R, left, S, P, Q, sum, part, f1, f2, f3, f4, f5, f6, f7, f8, f9, ⟨z1, b1, b2⟩, g2, ⟨z3, b3, b4⟩, ⟨z4, b5, b6⟩⟩ := shares_ok (w := 4 + x) (h := 4 + y) (m := 1 + m) (n := 1 + n) (p := 1 + p) (q := 1 + q) (by omega) (by omega) (by omega) (by omega) (by omega) (by omega) (by omega) (by omega) (by omega) (by omega) (by omega) (by omega) (plain_valid (by omega) (by omega) (by omega) (by omega))
    simp only [e1, e2, some_bind', hw, hh, hw2, hh2, e3, e4, e5, e6, hm m (by omega), hm n (by omega), hm p (by omega), hm q (by omega)]
    rw [plain_ok (w := 4 + x) (h := 4 + y) (by omega) (by omega) (by omega) (by omega)]
    simp only [some_bind', f1, f2, f3, f4, f5, f6, f7, f8, f9, b1, b2, b3, b4, b5, b6, Bool.not_true, Bool.false_eq_true, if_false, if_true]
    by_cases hd : 1 + m ≠ 1 + p ∨ 1 + n ≠ 1 + q
    · obtain ⟨z, c1, c2⟩ := g2 hd
      have hs : (if (((1 + m : Nat) : Int) == ((1 + p : Nat) : Int)) = true then some (((1 + n : Nat) : Int) == ((1 + q : Nat) : Int)) else some false) = some false := by
        rw [ite_andB]
        congr 1
        rw [Bool.and_eq_false_iff, beq_eq_false_iff_ne, beq_eq_false_iff_ne]
        omega
      rw [hs]
      simp only [some_bind', Bool.not_false, if_true, c1, c2, Bool.false_eq_true, if_false]
    · have hs : (if (((1 + m : Nat) : Int) == ((1 + p : Nat) : Int)) = true then some (((1 + n : Nat) : Int) == ((1 + q : Nat) : Int)) else some false) = some true := by
        rw [ite_andB]
        congr 1
        rw [Bool.and_eq_true, beq_iff_eq, beq_iff_eq]
        omega
      rw [hs]
      simp only [some_bind', Bool.not_true, Bool.false_eq_true, if_false]
end Go.H
