/- Shares of modes: sums, quotients, fields without a mode, sums of fields. -/
import Derived.Test.YtmgoblppedmdhaaPShar1
set_option linter.unusedVariables false
set_option linter.unusedSectionVars false
namespace Go.H
open Go Ieee

theorem zero_f32 : valf .f32 (some 0) = some 0 := by decide +kernel
theorem zero_f64 : valf .f64 (some 0) = some 0 := by decide +kernel
theorem neq_zero {x : Option Nat} (h : valf .f32 x = some 0) : fcmp .neq .f32 x (some 0) = false := by
  have := valf.eql h zero_f32
  have e : fcmp .neq .f32 x (some 0) = !fcmp .eql .f32 x (some 0) := rfl
  rw [e, this]; rfl

/-- a field whose E has these values, nothing else -/
structure FldV (w h : Nat) (E X Y : List (Option Nat)) (e : Nat → Int) : Prop where
  le : E.length = w * h
  lx : X.length = w * h
  ly : Y.length = w * h
  val : ∀ i, i < w * h → ∃ x, E[i]? = some x ∧ valf .f32 x = some (e i)
  rim : ∀ i, i < w * h → rimB w h i = true → e i = 0
  x0 : ∀ i, i < w * h → X[i]? = some (some 0)
  y0 : ∀ i, i < w * h → Y[i]? = some (some 0)

section
variable {w h : Nat} {l t : List (Option Nat)} (w1 : 3 ≤ w) (w2 : w ≤ 8) (k1 : 3 ≤ h) (k2 : h ≤ 8) (hv : impl_ValidSheet w h false l t = some true)
include w1 w2 k1 k2 hv

theorem FldV.isField {E X Y : List (Option Nat)} {e : Nat → Int} (F : FldV w h E X Y e) : impl_IsField w h false l t E X Y = some true := by
  have hn := area_le (show w ≤ 16 by omega) (show h ≤ 16 by omega)
  unfold impl_IsField
  have q : ∀ n : Nat, n = w * h → ((n : Int) != ((w * h : Nat) : Int)) = false := by intro n hn; simp [hn]
  rw [hv]
  simp only [area_eq (show w ≤ 16 by omega) (show h ≤ 16 by omega), q _ F.le, q _ F.lx, q _ F.ly, Bool.not_true, Bool.false_eq_true, if_false, some_bind', ite_some]
  have A := loop_all' (step := fun (s : (Bool × Int)) => impl_IsField.s0 w h false l t E X Y s.1 s.2) (n := w * h) (fun i => cellBad w h false (E[i]?.getD none) (X[i]?.getD none) (Y[i]?.getD none) ((i % w : Nat) : Int) ((i / w : Nat) : Int)) false (false, ((w * h : Nat) : Int), false) (fun i hi => field_step w h false l t E X Y (by omega) (by omega) (by omega) F.le F.lx F.ly i hi false) (by
    show impl_IsField.s0 w h false l t E X Y false ((w * h : Nat) : Int) = _
    unfold impl_IsField.s0
    rw [area_eq (show w ≤ 16 by omega) (show h ≤ 16 by omega), if_neg (by simp)]
    simp)
  have hno : (List.range (w * h)).any (fun i => cellBad w h false (E[i]?.getD none) (X[i]?.getD none) (Y[i]?.getD none) ((i % w : Nat) : Int) ((i / w : Nat) : Int)) = false := by
    rw [List.any_eq_false]
    intro i hi
    have hi := List.mem_range.1 hi
    obtain ⟨x, hx, hxv⟩ := F.val i hi
    have z := neq_zero zero_f32
    rw [hx, F.x0 i hi, F.y0 i hi]
    simp only [Option.getD_some]
    unfold cellBad
    rw [z, Bool.and_false, Bool.and_false, Bool.or_false, Bool.or_false]
    by_cases hr : rimB w h i = true
    · rw [F.rim i hi hr] at hxv
      rw [neq_zero hxv, Bool.and_false]; decide
    · unfold rimB at hr
      rw [wrap_small (n := (w : Int) - 1) (by omega) (by omega), wrap_small (n := (h : Int) - 1) (by omega) (by omega)]
      simp only [decide_eq_true_eq] at hr
      simp only [Bool.and_eq_true, Bool.or_eq_true, beq_iff_eq]
      omega
  rw [hno] at A
  simp only [Bool.false_eq_true, if_false] at A
  rw [A]
  rfl

theorem isMode_ok {m n : Nat} (m1 : 1 ≤ m) (m2 : m ≤ 8) (n1 : 1 ≤ n) (n2 : n ≤ 8) : impl_isMode w h false l t m n = some true := by
  unfold impl_isMode impl_isOrder
  have c1 : decide ((m : Int) ≥ 1) = true := by simp; omega
  have c2 : decide ((m : Int) ≤ 8) = true := by simp; omega
  have c3 : decide ((n : Int) ≥ 1) = true := by simp; omega
  have c4 : decide ((n : Int) ≤ 8) = true := by simp; omega
  rw [hv]
  simp only [(in_eq _ _ _).2, c1, c2, c3, c4, some_bind', if_true, Bool.not_false, Bool.and_self]

/-- the mode's cells, in units of 2^-52 -/
def pV (w h m n i : Nat) : Int := if rimB w h i = true then 0 else sT (w - 1) (m * (i % w)) * sT (h - 1) (n * (i / w))

omit hv in
theorem pV_bd {m n i : Nat} (hw : 4 ≤ w) (hh : 4 ≤ h) (m1 : 1 ≤ m) (m2 : m ≤ w - 2) (n1 : 1 ≤ n) (n2 : n ≤ h - 2) (hi : i < w * h) : -(2 ^ 26 * 2 ^ 26) ≤ pV w h m n i ∧ pV w h m n i ≤ 2 ^ 26 * 2 ^ 26 := by
  unfold pV
  by_cases hr : rimB w h i = true
  · rw [if_pos hr]; decide
  · rw [if_neg hr]
    unfold rimB at hr
    simp only [decide_eq_true_eq] at hr
    have hx := Nat.mod_lt i (show 0 < w by omega)
    have hy : i / w < h := Nat.div_lt_of_lt_mul hi
    have hy1 : 1 ≤ i / w := Nat.one_le_iff_ne_zero.2 (fun hh => hr (.inr (.inr (.inl hh))))
    have s1 := sin_small (w - 4) (by omega) (m - 1) (by omega) (i % w - 1) (by omega)
    have s2 := sin_small (h - 4) (by omega) (n - 1) (by omega) (i / w - 1) (by omega)
    rw [show w - 4 + 3 = w - 1 by omega, show m - 1 + 1 = m by omega, show i % w - 1 + 1 = i % w by omega] at s1
    rw [show h - 4 + 3 = h - 1 by omega, show n - 1 + 1 = n by omega, show i / w - 1 + 1 = i / w by omega] at s2
    exact ab s1.1 s1.2 s2.1 s2.2

theorem mode_ok {m n : Nat} (hw : 4 ≤ w) (hh : 4 ≤ h) (m1 : 1 ≤ m) (m2 : m ≤ w - 2) (n1 : 1 ≤ n) (n2 : n ≤ h - 2) {z : Option Nat} {zz : Int} {Q : Nat} (hz : valf .f32 z = some (zz * 2 ^ 2398)) (hQ : Q = 2376 ∧ -4 ≤ zz ∧ zz ≤ 4 ∨ Q = 2377 ∧ -6 ≤ zz ∧ zz ≤ 6) (hf : impl_IsFinite z = some true) :
    ∃ E X Y e, impl_modeField w h false l t m n z = some (E, X, Y) ∧ impl_ModeField w h false l t m n z = some (E, X, Y, true) ∧ FldV w h E X Y e ∧ ∀ i, i < w * h → -(2 ^ Q) ≤ e i - zz * pV w h m n i * 2 ^ 2346 ∧ e i - zz * pV w h m n i * 2 ^ 2346 ≤ 2 ^ Q ∧ -(2 ^ (24 + Q)) ≤ e i ∧ e i ≤ 2 ^ (24 + Q) := by
  obtain ⟨E, g1, lE, hE⟩ := mode_cells l t w1 (by omega) k1 (by omega) m n (by omega) (by omega) z
  have hc : ∀ i, i < w * h → ∃ v, valf .f32 (if rimB w h i = true then some 0 else cellV w h m n z i) = some v ∧ (rimB w h i = true → v = 0) ∧ -(2 ^ Q) ≤ v - zz * pV w h m n i * 2 ^ 2346 ∧ v - zz * pV w h m n i * 2 ^ 2346 ≤ 2 ^ Q ∧ -(2 ^ (24 + Q)) ≤ v ∧ v ≤ 2 ^ (24 + Q) := by
    intro i hi
    have hq := inonneg Q
    have hq2 := inonneg (24 + Q)
    unfold pV
    by_cases hr : rimB w h i = true
    · rw [if_pos hr, if_pos hr]
      refine ⟨0, zero_f32, fun _ => rfl, ?_⟩
      rw [Int.mul_zero, Int.zero_mul]
      omega
    · rw [if_neg hr, if_neg hr]
      have hr' := hr
      unfold rimB at hr
      simp only [decide_eq_true_eq] at hr
      have hx := Nat.mod_lt i (show 0 < w by omega)
      have hy : i / w < h := Nat.div_lt_of_lt_mul hi
      have hy1 : 1 ≤ i / w := Nat.one_le_iff_ne_zero.2 (fun hh => hr (.inr (.inr (.inl hh))))
      have s1 := sin_small (w - 4) (by omega) (m - 1) (by omega) (i % w - 1) (by omega)
      have s2 := sin_small (h - 4) (by omega) (n - 1) (by omega) (i / w - 1) (by omega)
      rw [show w - 4 + 3 = w - 1 by omega, show m - 1 + 1 = m by omega, show i % w - 1 + 1 = i % w by omega] at s1
      rw [show h - 4 + 3 = h - 1 by omega, show n - 1 + 1 = n by omega, show i / w - 1 + 1 = i / w by omega] at s2
      obtain ⟨u, u1, u2⟩ := sin_has (N := w - 1) (m := m) (x := i % w) (by omega) (by omega) m1 (by omega) (by omega) (by omega)
      obtain ⟨v, v1, v2⟩ := sin_has (N := h - 1) (m := n) (x := i / w) (by omega) (by omega) n1 (by omega) (by omega) (by omega)
      rw [sV_eq] at u1 v1
      have eu := Option.some.inj u1
      have ev := Option.some.inj v1
      rw [← eu] at u2
      rw [← ev] at v2
      obtain ⟨r, r1, r2, r3, r4⟩ := mode_val hz u2 v2 hQ s1.1 s1.2 s2.1 s2.2
      rw [Int.mul_assoc zz] at r2 r3
      exact ⟨r, r1, fun hh => absurd hh hr', r2, r3, r4⟩
  let e : Nat → Int := fun i => (valf .f32 (if rimB w h i = true then some 0 else cellV w h m n z i)).getD 0
  have he : ∀ i, i < w * h → valf .f32 (if rimB w h i = true then some 0 else cellV w h m n z i) = some (e i) := by
    intro i hi
    obtain ⟨v, hv, _⟩ := hc i hi
    simp only [e, hv, Option.getD_some]
  refine ⟨E, _, _, e, g1, ?_, ⟨lE, by simp, by simp, fun i hi => ⟨_, hE i hi, he i hi⟩, fun i hi hr => ?_, fun i hi => ?_, fun i hi => ?_⟩, fun i hi => ?_⟩
  · unfold impl_ModeField
    rw [isMode_ok w1 w2 k1 k2 hv m1 (by omega) n1 (by omega), hf]
    simp only [some_bind', Bool.not_true, Bool.false_eq_true, if_false, g1]
  · obtain ⟨v, hv, h0, _⟩ := hc i hi
    rw [he i hi] at hv
    rw [Option.some.inj hv]; exact h0 hr
  · rw [List.getElem?_replicate, if_pos hi]
  · rw [List.getElem?_replicate, if_pos hi]
  · obtain ⟨v, hv, h0, h1⟩ := hc i hi
    rw [he i hi] at hv
    rw [Option.some.inj hv]; exact h1

end

/-- the sums of a share -/
theorem share_loop {n : Nat} (hn : n ≤ 64) {E G X Y : List (Option Nat)} {e g wA wB : Nat → Int} (lE : E.length = n) (lG : G.length = n) (hE : ∀ i, i < n → ∃ x, E[i]? = some x ∧ valf .f32 x = some (e i)) (hG : ∀ i, i < n → ∃ x, G[i]? = some x ∧ valf .f32 x = some (g i))
    (e1 : ∀ i, i < n → -(36028797018963968 * TT) ≤ e i ∧ e i ≤ 36028797018963968 * TT) (g1 : ∀ i, i < n → -(2 ^ UN) ≤ g i ∧ g i ≤ 2 ^ UN) (hA : ∀ i, i < n → wA i * 2 ^ UN = e i * g i) (hB : ∀ i, i < n → wB i * 2 ^ UN = g i * g i) :
    ∃ x y a b, loopF (fun (s : ((Option Nat) × (Option Nat) × Int)) => impl_shareOf.s0 E (G, X, Y) s.1 s.2.1 s.2.2) ((some 0), (some 0), 0) = some (x, y, (n : Int), false) ∧ valf .f64 x = some a ∧ valf .f64 y = some b ∧
      -(32768 * TT) ≤ a - sumN wA n ∧ a - sumN wA n ≤ 32768 * TT ∧ -(32768 * TT) ≤ b - sumN wB n ∧ b - sumN wB n ≤ 32768 * TT := by
  have hT := TT_pos
  have hL : FloatKind.f64.format.leastPlace = -1074 := by decide
  have hN : fbits1 .f64 = 53 := by decide
  have bA : ∀ i, i < n → -(36028797018963968 * TT) ≤ wA i ∧ wA i ≤ 36028797018963968 * TT := fun i hi => prod_le (hA i hi) (e1 i hi).1 (e1 i hi).2 (g1 i hi).1 (g1 i hi).2
  have bB : ∀ i, i < n → -(36028797018963968 * TT) ≤ wB i ∧ wB i ≤ 36028797018963968 * TT := fun i hi => by
    obtain ⟨p, q⟩ := g1 i hi
    rw [eK] at p q
    exact prod_le (hB i hi) (by omega) (by omega) (g1 i hi).1 (g1 i hi).2
  -- one more product in a sum
  have add : ∀ (k : Nat) (x p q : Option Nat) (a S c d w : Int), k < 64 → valf .f64 x = some a → valf .f32 p = some c → valf .f32 q = some d → w * 2 ^ UN = c * d → -(36028797018963968 * TT) ≤ w → w ≤ 36028797018963968 * TT → -((k : Int) * (36028797018963968 * TT)) ≤ S → S ≤ (k : Int) * (36028797018963968 * TT) →
      -((k : Int) * (512 * TT)) ≤ a - S → a - S ≤ (k : Int) * (512 * TT) → ∃ a', valf .f64 (fop .add .f64 x (fop .mul .f64 (wid p) (wid q))) = some a' ∧ -(((k + 1 : Nat) : Int) * (512 * TT)) ≤ a' - (S + w) ∧ a' - (S + w) ≤ ((k + 1 : Nat) : Int) * (512 * TT) := by
    intro k x p q a S c d w hk hx hp hq hw w1 w2 s1 s2 a1 a2
    have p1 : (2 : Int) ^ (fbits1 .f64 + 2349) = 36028797018963968 * TT := by rw [hN]; exact e2402
    have p2 : (2 : Int) ^ (fbits1 .f64 + 2356) = 4611686018427387904 * TT := by rw [hN]; exact e2409
    obtain ⟨m, m1, m2, m3, -, m5, m6⟩ := valf.mul (valf.wid hp) (valf.wid hq) (Q := 2349) (by rw [hL]; decide) (by decide) hw (by rw [p1]; omega) (by rw [p1]; omega)
    rw [p1] at m5 m6
    rw [e2349] at m2 m3
    have hkT : (k : Int) * (512 * TT) ≤ 63 * (512 * TT) := Int.mul_le_mul_of_nonneg_right (by omega) (by omega)
    have hkS : (k : Int) * (36028797018963968 * TT) ≤ 63 * (36028797018963968 * TT) := Int.mul_le_mul_of_nonneg_right (by omega) (by omega)
    obtain ⟨v, v1, v2, v3, -⟩ := valf.add hx m1 (Q := 2356) (by rw [hL]; decide) (by decide) (by rw [p2]; omega) (by rw [p2]; omega)
    rw [e2356] at v2 v3
    have hk1 : ((k + 1 : Nat) : Int) * (512 * TT) = (k : Int) * (512 * TT) + 512 * TT := by rw [Int.natCast_add, Int.add_mul]; simp
    refine ⟨v, v1, ?_, ?_⟩ <;> rw [hk1] <;> generalize (k : Int) * (512 * TT) = u at * <;> omega
  have A := loop_ex (step := fun (s : ((Option Nat) × (Option Nat) × Int)) => impl_shareOf.s0 E (G, X, Y) s.1 s.2.1 s.2.2) (S := Option Nat × Option Nat) (fun s k => (s.1, s.2, (k : Int)))
    (fun k s => ∃ a b, valf .f64 s.1 = some a ∧ valf .f64 s.2 = some b ∧ -((k : Int) * (512 * TT)) ≤ a - sumN wA k ∧ a - sumN wA k ≤ (k : Int) * (512 * TT) ∧ -((k : Int) * (512 * TT)) ≤ b - sumN wB k ∧ b - sumN wB k ≤ (k : Int) * (512 * TT)) n (fun s => (s.1, s.2, (n : Int), false)) (some 0, some 0) ⟨0, 0, zero_f64, zero_f64, by simp [sumN], by simp [sumN], by simp [sumN], by simp [sumN]⟩ (fun k s hk hI => by
      obtain ⟨a, b, i1, i2, i3, i4, i5, i6⟩ := hI
      obtain ⟨x, hx, vx⟩ := hE k hk
      obtain ⟨y, hy, vy⟩ := hG k hk
      have sA := sumN_bd (F := wA) (B := 36028797018963968 * TT) k (fun j hj => bA j (by omega))
      have sB := sumN_bd (F := wB) (B := 36028797018963968 * TT) k (fun j hj => bB j (by omega))
      obtain ⟨a', a1, a2, a3⟩ := add k s.1 x y a (sumN wA k) (e k) (g k) (wA k) (by omega) i1 vx vy (hA k hk) (bA k hk).1 (bA k hk).2 sA.1 sA.2 i3 i4
      obtain ⟨b', b1, b2, b3⟩ := add k s.2 y y b (sumN wB k) (g k) (g k) (wB k) (by omega) i2 vy vy (hB k hk) (bB k hk).1 (bB k hk).2 sB.1 sB.2 i5 i6
      refine ⟨(fop .add .f64 s.1 (fop .mul .f64 (wid x) (wid y)), fop .add .f64 s.2 (fop .mul .f64 (wid y) (wid y))), ?_, a', b', a1, b1, a2, a3, b2, b3⟩
      show impl_shareOf.s0 E (G, X, Y) s.1 s.2 (k : Int) = _
      unfold impl_shareOf.s0 impl_square
      simp only [lG]
      rw [if_pos (decide_eq_true (Int.ofNat_lt.2 hk)), idx_nat, idx_nat, hx, hy]
      simp only [some_bind', one_more (show k ≤ 1000000000 by omega)]) (fun s hI => by
      show impl_shareOf.s0 E (G, X, Y) s.1 s.2 (n : Int) = _
      unfold impl_shareOf.s0
      simp only [lG]
      rw [if_neg (by simp)]
      simp)
  obtain ⟨s, A1, a, b, i1, i2, i3, i4, i5, i6⟩ := A
  have hkT : (n : Int) * (512 * TT) ≤ 64 * (512 * TT) := Int.mul_le_mul_of_nonneg_right (by omega) (by omega)
  exact ⟨s.1, s.2, a, b, A1, i1, i2, by omega, by omega, by omega, by omega⟩
end Go.H
