/- Shares of modes: the program's functions, by values. -/
import Derived.Test.YtmgoblppedmdhaaPShar2
set_option linter.unusedVariables false
set_option linter.unusedSectionVars false
namespace Go.H
open Go Ieee

/-- a product, in units -/
def prd (a b : Int) : Int := a * b / 2 ^ UN
theorem prd_of {a b w : Int} (h : w * 2 ^ UN = a * b) : prd a b * 2 ^ UN = a * b := by
  unfold prd
  exact Int.ediv_mul_cancel ⟨w, by rw [← h, Int.mul_comm]⟩
theorem prd_ok {k : FloatKind} {x y : Option Nat} {a b : Int} (hx : valf k x = some a) (hy : valf k y = some b) : prd a b * 2 ^ UN = a * b := by
  obtain ⟨w, hw⟩ := mul_unit hx hy
  exact prd_of hw

theorem Rd.zero {N Q : Nat} {v w : Int} (h : Rd N Q v w) (h0 : w = 0) : v = 0 := by
  subst h0
  exact h.2.2.1 (Int.dvd_zero _)

theorem both_ok {a b : List (Option Nat)} {n : Nat} (la : a.length = n) (lb : b.length = n) (hn : n ≤ 1000) : ∃ r, impl_both__impl_AddFields_1 a b = some r ∧ r.length = n ∧ ∀ i, i < n → r[i]? = some (fop .add .f32 (a[i]?.getD none) (b[i]?.getD none)) := by
  have A := loop_ex (step := fun (s : ((List (Option Nat)) × Int)) => impl_both__impl_AddFields_1.s0 a b s.1 s.2) (fun s k => (s, (k : Int))) (fun k s => s.length = k ∧ ∀ i, i < k → s[i]? = some (fop .add .f32 (a[i]?.getD none) (b[i]?.getD none))) n (fun s => ((n : Int), false, s)) [] ⟨rfl, fun i hi => by omega⟩ (fun k s hk hI => by
    obtain ⟨i1, i2⟩ := hI
    refine ⟨s ++ [fop .add .f32 (a[k]?.getD none) (b[k]?.getD none)], ?_, by simp [i1], fun i hi => ?_⟩
    · show impl_both__impl_AddFields_1.s0 a b s (k : Int) = _
      unfold impl_both__impl_AddFields_1.s0 impl_AddFields_1
      rw [if_pos (decide_eq_true (by omega)), idx_nat, idx_nat, List.getElem?_eq_getElem (show k < a.length by omega), List.getElem?_eq_getElem (show k < b.length by omega)]
      simp only [some_bind', Option.getD_some]
      rw [if_pos (by simp; omega), one_more (by omega)]
    · by_cases h : i < k
      · rw [List.getElem?_append_left (by omega)]; exact i2 i h
      · have : i = k := by omega
        subst this
        rw [List.getElem?_append_right (by omega), i1, Nat.sub_self]; rfl) (fun s hI => by
    show impl_both__impl_AddFields_1.s0 a b s (n : Int) = _
    unfold impl_both__impl_AddFields_1.s0
    rw [if_neg (by simp; omega), la]
    simp)
  obtain ⟨s, A1, A2, A3⟩ := A
  refine ⟨s, ?_, A2, A3⟩
  unfold impl_both__impl_AddFields_1
  simp only [Int.ofNat_zero] at A1
  rw [A1]; rfl

section
variable {w h : Nat} {l t : List (Option Nat)} (w1 : 4 ≤ w) (w2 : w ≤ 8) (k1 : 4 ≤ h) (k2 : h ≤ 8) (hv : impl_ValidSheet w h false l t = some true)
include w1 w2 k1 k2 hv

theorem add_ok {E X Y E' X' Y' : List (Option Nat)} {e e' : Nat → Int} (F : FldV w h E X Y e) (F' : FldV w h E' X' Y' e') (he : ∀ i, i < w * h → -(36028797018963968 * TT) ≤ e i + e' i ∧ e i + e' i ≤ 36028797018963968 * TT) :
    ∃ S P R s, impl_AddFields w h false l t E X Y E' X' Y' = some (S, P, R, true) ∧ FldV w h S P R s ∧ ∀ i, i < w * h → -(1073741824 * TT) ≤ s i - (e i + e' i) ∧ s i - (e i + e' i) ≤ 1073741824 * TT ∧ -(36028797018963968 * TT) ≤ s i ∧ s i ≤ 36028797018963968 * TT := by
  have hn := area_le (show w ≤ 16 by omega) (show h ≤ 16 by omega)
  obtain ⟨S, s1, s2, s3⟩ := both_ok F.le F'.le (by omega)
  obtain ⟨P, p1, p2, p3⟩ := both_ok F.lx F'.lx (by omega)
  obtain ⟨R, r1, r2, r3⟩ := both_ok F.ly F'.ly (by omega)
  have hL : FloatKind.f32.format.leastPlace = -149 := by decide
  have q : (2 : Int) ^ (fbits1 .f32 + 2378) = 36028797018963968 * TT := by
    rw [show fbits1 .f32 = 24 by decide]; exact e2402
  have hc : ∀ i, i < w * h → ∃ v, valf .f32 (fop .add .f32 (E[i]?.getD none) (E'[i]?.getD none)) = some v ∧ (rimB w h i = true → v = 0) ∧ -(1073741824 * TT) ≤ v - (e i + e' i) ∧ v - (e i + e' i) ≤ 1073741824 * TT ∧ -(36028797018963968 * TT) ≤ v ∧ v ≤ 36028797018963968 * TT := by
    intro i hi
    obtain ⟨x, x1, x2⟩ := F.val i hi
    obtain ⟨y, y1, y2⟩ := F'.val i hi
    obtain ⟨z1, z2⟩ := he i hi
    obtain ⟨v, v1, v2⟩ := valf.add x2 y2 (Q := 2378) (by rw [hL]; decide) (by decide) (by rw [q]; exact z1) (by rw [q]; exact z2)
    have v3 := v2
    obtain ⟨v4, v5, -, v6, v7⟩ := v2
    rw [q] at v6 v7
    rw [e2378] at v4 v5
    rw [x1, y1]
    refine ⟨v, v1, fun hr => v3.zero (by rw [F.rim i hi hr, F'.rim i hi hr]; rfl), by omega, by omega, v6, v7⟩
  let s : Nat → Int := fun i => (valf .f32 (fop .add .f32 (E[i]?.getD none) (E'[i]?.getD none))).getD 0
  have hs : ∀ i, i < w * h → valf .f32 (fop .add .f32 (E[i]?.getD none) (E'[i]?.getD none)) = some (s i) := by
    intro i hi
    obtain ⟨v, hv, _⟩ := hc i hi
    simp only [s, hv, Option.getD_some]
  have z : fop .add .f32 (some 0) (some 0) = some 0 := by decide +kernel
  have FS : FldV w h S P R s := ⟨s2, p2, r2, fun i hi => ⟨_, s3 i hi, hs i hi⟩, fun i hi hr => by
    obtain ⟨v, hv, h0, _⟩ := hc i hi
    rw [hs i hi] at hv
    rw [Option.some.inj hv]; exact h0 hr, fun i hi => by rw [p3 i hi, F.x0 i hi, F'.x0 i hi]; exact congrArg some z, fun i hi => by rw [r3 i hi, F.y0 i hi, F'.y0 i hi]; exact congrArg some z⟩
  refine ⟨S, P, R, s, ?_, FS, fun i hi => ?_⟩
  · unfold impl_AddFields impl_validField
    rw [F.isField (by omega) (by omega) (by omega) (by omega) hv, F'.isField (by omega) (by omega) (by omega) (by omega) hv]
    simp only [some_bind', Bool.not_true, Bool.false_eq_true, if_false, s1, p1, r1]
    rw [FS.isField (by omega) (by omega) (by omega) (by omega) hv]
    simp only [some_bind', Bool.not_true, Bool.false_eq_true, if_false]
  · obtain ⟨v, hv, h0, h1⟩ := hc i hi
    rw [hs i hi] at hv
    rw [Option.some.inj hv]; exact h1

/-- a share: by the sums of products -/
theorem share_ok {m n : Nat} (m1 : 1 ≤ m) (m2 : m ≤ w - 2) (n1 : 1 ≤ n) (n2 : n ≤ h - 2) {E X Y G X' Y' : List (Option Nat)} {e g : Nat → Int} (F : FldV w h E X Y e) (hG : impl_modeField w h false l t m n (some 1065353216) = some (G, X', Y')) (FG : FldV w h G X' Y' g)
    (e1 : ∀ i, i < w * h → -(36028797018963968 * TT) ≤ e i ∧ e i ≤ 36028797018963968 * TT) (g1 : ∀ i, i < w * h → -(2 ^ UN) ≤ g i ∧ g i ≤ 2 ^ UN)
    {A B : Int} (hA : sumN (fun i => prd (e i) (g i)) (w * h) = A) (hB : sumN (fun i => prd (g i) (g i)) (w * h) = B) (B1 : 2 * (9007199254740992 * TT) ≤ B) (A1 : -(4 * B) ≤ A) (A2 : A ≤ 4 * B) :
    ∃ q v, impl_ShareOf w h false l t E X Y m n = some (q, true) ∧ valf .f32 q = some v ∧ -(4294967296 * (TT * B)) ≤ v * B - A * 2 ^ UN ∧ v * B - A * 2 ^ UN ≤ 4294967296 * (TT * B) := by
  have hn : w * h ≤ 64 := Nat.le_trans (Nat.mul_le_mul w2 k2) (by decide)
  have hT := TT_pos
  have pA : ∀ i, i < w * h → prd (e i) (g i) * 2 ^ UN = e i * g i := fun i hi => by
    obtain ⟨x, _, x2⟩ := F.val i hi
    obtain ⟨y, _, y2⟩ := FG.val i hi
    exact prd_ok x2 y2
  have pB : ∀ i, i < w * h → prd (g i) (g i) * 2 ^ UN = g i * g i := fun i hi => by
    obtain ⟨y, _, y2⟩ := FG.val i hi
    exact prd_ok y2 y2
  obtain ⟨x, y, a, b, L1, L2, L3, L4, L5, L6, L7⟩ := share_loop (X := X') (Y := Y') hn F.le FG.le F.val FG.val e1 g1 pA pB
  rw [hA] at L4 L5
  rw [hB] at L6 L7
  have bB := sumN_bd (F := fun i => prd (g i) (g i)) (B := 9007199254740992 * TT) (w * h) (fun i hi => by
    have := prod_le (pB i hi) (g1 i hi).1 (g1 i hi).2 (g1 i hi).1 (g1 i hi).2
    rw [eK] at this
    exact this)
  rw [hB] at bB
  have hnT : ((w * h : Nat) : Int) * (9007199254740992 * TT) ≤ 64 * (9007199254740992 * TT) := Int.mul_le_mul_of_nonneg_right (by omega) (by omega)
  obtain ⟨q, v, c1, c2, c3, c4, c5⟩ := share_quo L2 L3 (by omega) (by omega) (by omega) (by omega) B1 (by omega) A1 A2
  refine ⟨q, v, ?_, c2, c3, c4⟩
  unfold impl_ShareOf impl_shareOf
  rw [isMode_ok (by omega) (by omega) (by omega) (by omega) hv m1 (by omega) n1 (by omega), F.isField (by omega) (by omega) (by omega) (by omega) hv]
  simp only [some_bind', Bool.not_true, Bool.false_eq_true, if_false, hG]
  rw [L1]
  simp only [some_bind', c5, Bool.false_eq_true, if_false, c1]

theorem without_ok {m n : Nat} {E X Y G X' Y' : List (Option Nat)} {e g : Nat → Int} (F : FldV w h E X Y e) (hG : impl_modeField w h false l t m n (some 1065353216) = some (G, X', Y')) (FG : FldV w h G X' Y' g)
    (e1 : ∀ i, i < w * h → -(18014398509481984 * TT) ≤ e i ∧ e i ≤ 18014398509481984 * TT) (g1 : ∀ i, i < w * h → -(2 ^ UN) ≤ g i ∧ g i ≤ 2 ^ UN)
    {q : Option Nat} {v : Int} (hS : impl_ShareOf w h false l t E X Y m n = some (q, true)) (hq : valf .f32 q = some v) (v1 : -(18014398509481984 * TT) ≤ v) (v2 : v ≤ 18014398509481984 * TT) :
    ∃ S s, impl_WithoutMode w h false l t E X Y m n = some (S, X, Y, true) ∧ FldV w h S X Y s ∧ ∀ i, i < w * h → -(1610612736 * TT) ≤ s i - (e i - prd v (g i)) ∧ s i - (e i - prd v (g i)) ≤ 1610612736 * TT ∧ prd v (g i) * 2 ^ UN = v * g i := by
  have hn := area_le (show w ≤ 16 by omega) (show h ≤ 16 by omega)
  have hT := TT_pos
  have hL : FloatKind.f32.format.leastPlace = -149 := by decide
  have q1 : (2 : Int) ^ (fbits1 .f32 + 2377) = 18014398509481984 * TT := by
    rw [show fbits1 .f32 = 24 by decide]; exact e2401
  have q2 : (2 : Int) ^ (fbits1 .f32 + 2378) = 36028797018963968 * TT := by
    rw [show fbits1 .f32 = 24 by decide]; exact e2402
  let cell : Nat → Option Nat := fun i => fop .sub .f32 (E[i]?.getD none) (fop .mul .f32 q (G[i]?.getD none))
  have hc : ∀ i, i < w * h → ∃ r, valf .f32 (cell i) = some r ∧ (rimB w h i = true → r = 0) ∧ -(1610612736 * TT) ≤ r - (e i - prd v (g i)) ∧ r - (e i - prd v (g i)) ≤ 1610612736 * TT ∧ prd v (g i) * 2 ^ UN = v * g i := by
    intro i hi
    obtain ⟨x, x1, x2⟩ := F.val i hi
    obtain ⟨y, y1, y2⟩ := FG.val i hi
    obtain ⟨z1, z2⟩ := e1 i hi
    have hp := prd_ok hq y2
    have hb := prod_le hp v1 v2 (g1 i hi).1 (g1 i hi).2
    obtain ⟨u, u1, u2⟩ := valf.mul hq y2 (Q := 2377) (by rw [hL]; decide) (by decide) hp (by rw [q1]; exact hb.1) (by rw [q1]; exact hb.2)
    have u3 := u2
    obtain ⟨u4, u5, -, u6, u7⟩ := u2
    rw [q1] at u6 u7
    rw [e2377] at u4 u5
    obtain ⟨r, r1, r2⟩ := valf.sub x2 u1 (Q := 2378) (by rw [hL]; decide) (by decide) (by rw [q2]; omega) (by rw [q2]; omega)
    have r3 := r2
    obtain ⟨r4, r5, -⟩ := r2
    rw [e2378] at r4 r5
    simp only [cell, x1, y1, Option.getD_some]
    refine ⟨r, r1, fun hr => ?_, by omega, by omega, hp⟩
    have g0 := FG.rim i hi hr
    have u0 : u = 0 := u3.zero (by rw [g0]; unfold prd; simp)
    exact r3.zero (by rw [F.rim i hi hr, u0]; rfl)
  have A := loop_ex (step := fun (s : (Int × (List (Option Nat)))) => impl_WithoutMode.s0 (q, true) (G, X', Y') s.1 s.2) (fun s k => ((k : Int), s)) (fun (k : Nat) (s : List (Option Nat)) => s.length = w * h ∧ ∀ i, i < w * h → s[i]? = some (if i < k then cell i else E[i]?.getD none)) (w * h) (fun s => (((w * h : Nat) : Int), false, s)) E ⟨F.le, fun i hi => by
      rw [if_neg (by omega), List.getElem?_eq_getElem (by rw [F.le]; exact hi)]; rfl⟩ (fun k s hk hI => by
    obtain ⟨i1, i2⟩ := hI
    have hks : k < s.length := by omega
    have e2 := i2 k hk
    rw [if_neg (by omega)] at e2
    refine ⟨s.set k (cell k), ?_, by simp [i1], fun i hi => ?_⟩
    · show impl_WithoutMode.s0 (q, true) (G, X', Y') (k : Int) s = _
      unfold impl_WithoutMode.s0
      simp only [FG.le]
      rw [if_pos (decide_eq_true (Int.ofNat_lt.2 hk)), idx_nat, idx_nat, e2, List.getElem?_eq_getElem (show k < G.length by rw [FG.le]; exact hk)]
      simp only [some_bind']
      rw [setF_nat hks, one_more (by omega)]
      simp only [cell, List.getElem?_eq_getElem (show k < G.length by rw [FG.le]; exact hk), Option.getD_some, some_bind']
    · by_cases h : i = k
      · subst h
        rw [List.getElem?_set_self hks, if_pos (by omega)]
      · rw [List.getElem?_set_ne (Ne.symm h), i2 i hi]
        by_cases h2 : i < k
        · rw [if_pos h2, if_pos (by omega)]
        · rw [if_neg h2, if_neg (by omega)]) (fun s hI => by
    show impl_WithoutMode.s0 (q, true) (G, X', Y') ((w * h : Nat) : Int) s = _
    unfold impl_WithoutMode.s0
    simp only [FG.le]
    rw [if_neg (by simp)]
    simp)
  obtain ⟨S, A1, A2, A3⟩ := A
  simp only [Int.ofNat_zero] at A1
  let s : Nat → Int := fun i => (valf .f32 (cell i)).getD 0
  have hs : ∀ i, i < w * h → valf .f32 (cell i) = some (s i) := by
    intro i hi
    obtain ⟨v, hv, _⟩ := hc i hi
    simp only [s, hv, Option.getD_some]
  have FS : FldV w h S X Y s := ⟨A2, F.lx, F.ly, fun i hi => ⟨cell i, by rw [A3 i hi, if_pos hi], hs i hi⟩, fun i hi hr => by
    obtain ⟨v, hv, h0, _⟩ := hc i hi
    rw [hs i hi] at hv
    rw [Option.some.inj hv]; exact h0 hr, F.x0, F.y0⟩
  refine ⟨S, s, ?_, FS, fun i hi => ?_⟩
  · unfold impl_WithoutMode impl_copyField impl_validField
    rw [hS, copyOf_eq (show E.length ≤ 1000000000 by rw [F.le]; omega), copyOf_eq (show X.length ≤ 1000000000 by rw [F.lx]; omega), copyOf_eq (show Y.length ≤ 1000000000 by rw [F.ly]; omega)]
    simp only [some_bind', Bool.not_true, Bool.false_eq_true, if_false, hG]
    rw [A1]
    simp only [some_bind']
    rw [FS.isField (by omega) (by omega) (by omega) (by omega) hv]
    simp only [some_bind', Bool.not_true, Bool.false_eq_true, if_false]
  · obtain ⟨v, hv, h0, h1⟩ := hc i hi
    rw [hs i hi] at hv
    rw [Option.some.inj hv]; exact h1
end
end Go.H
