/- Spectra: the strongest bin. -/
import Derived.Test.YtmgoblppedmdhaaGSpectra
import Derived.Test.YtmgoblppedmdhaaPFold
import Derived.Test.YtmgoblppedmdhaaPLoop
import Derived.Test.YtmgoblppedmdhaaLibH
set_option linter.unusedVariables false
namespace Go.H
open Go Ieee

/-- numbers that are told by values -/
structure Pw (P : List (Option Nat)) (n : Nat) (v : Nat → Int) : Prop where
  len : P.length = n
  val : ∀ i, i < n → ∃ x, P[i]? = some x ∧ valf .f32 x = some (v i)

theorem cmp_pw {P : List (Option Nat)} {n : Nat} {v : Nat → Int} (h : Pw P n v) {a b : Nat} (ha : a < n) (hb : b < n) : ∃ c : Int, impl_StrongBins_1_1 (a : Int) (b : Int) P = some c ∧ decide (c < 0) = decide (v b < v a) := by
  obtain ⟨x, hx, vx⟩ := h.val a ha
  obtain ⟨y, hy, vy⟩ := h.val b hb
  have e1 : fcmp .neq .f32 x x = !fcmp .eql .f32 x x := rfl
  have e2 : fcmp .neq .f32 y y = !fcmp .eql .f32 y y := rfl
  unfold impl_StrongBins_1_1
  rw [idx_nat, idx_nat, hx, hy, some_bind', some_bind', e1, e2, valf.eql vx vx, valf.eql vy vy, valf.gtr vx vy, valf.lss vx vy]
  by_cases h1 : v b < v a
  · refine ⟨-1, by simp [h1], by simp [h1]⟩
  · by_cases h2 : v a < v b
    · exact ⟨1, by simp [h1, h2], by simp [h1]⟩
    · exact ⟨0, by simp [h1, h2], by simp [h1]⟩

/-- a list of indices, as a function -/
def Rep (n : Nat) (D : List Int) (f : Nat → Nat) : Prop := D.length = n ∧ ∀ p, p < n → D[p]? = some ((f p : Nat) : Int)
def Good (n : Nat) (f : Nat → Nat) : Prop := (∀ p, p < n → f p < n) ∧ ∀ k, k < n → ∃ p, p < n ∧ f p = k

theorem inner_sort {P : List (Option Nat)} {n i : Nat} {v : Nat → Int} (h : Pw P n v) (hn : n ≤ 100) (hi : i < n) : ∀ (j : Nat) (D : List Int) (f : Nat → Nat), j ≤ i → Rep n D f → Good n f → (∀ p q, p < q → q ≤ i → q ≠ j → v (f q) ≤ v (f p)) →
    ∃ r b D' f', loopF (fun (s : (Int × (List (Int)))) => slices_insertionSortCmpFunc_int64__impl_StrongBins_1_4.s1 0 P s.1 s.2) ((j : Int), D) = some (r, b, D') ∧ Rep n D' f' ∧ Good n f' ∧ ∀ p q, p < q → q ≤ i → v (f' q) ≤ v (f' p)
  | 0, D, f, hj, hR, hG, hs => by
    refine ⟨0, false, D, f, loopF_stop ?_, hR, hG, fun p q hpq hq => hs p q hpq hq (by omega)⟩
    show slices_insertionSortCmpFunc_int64__impl_StrongBins_1_4.s1 0 P ((0 : Nat) : Int) D = _
    unfold slices_insertionSortCmpFunc_int64__impl_StrongBins_1_4.s1
    rfl
  | j + 1, D, f, hj, hR, hG, hs => by
    have r1 := hR.2 (j + 1) (by omega)
    have r0 := hR.2 j (by omega)
    have l1 : j + 1 < D.length := by rw [hR.1]; omega
    have hw : IntKind.wrap .i64 (((j + 1 : Nat) : Int) - 1) = (j : Int) := by rw [wrap_small (by omega) (by omega)]; omega
    obtain ⟨c, c1, c2⟩ := cmp_pw h (hG.1 (j + 1) (by omega)) (hG.1 j (by omega))
    have hgt : decide (((j + 1 : Nat) : Int) > 0) = true := decide_eq_true (by omega)
    by_cases hv : v (f j) < v (f (j + 1))
    · let f' : Nat → Nat := fun p => if p = j + 1 then f j else if p = j then f (j + 1) else f p
      let D' := (D.set (j + 1) ((f j : Nat) : Int)).set j ((f (j + 1) : Nat) : Int)
      have hR' : Rep n D' f' := by
        refine ⟨by simp [D', hR.1], fun p hp => ?_⟩
        simp only [D', f']
        by_cases h1 : p = j
        · subst h1
          rw [List.getElem?_set_self (by simp; omega), if_neg (by omega), if_pos rfl]
        · rw [List.getElem?_set_ne (Ne.symm h1)]
          by_cases h2 : p = j + 1
          · subst h2
            rw [List.getElem?_set_self l1, if_pos rfl]
          · rw [List.getElem?_set_ne (Ne.symm h2), if_neg h2, if_neg h1]
            exact hR.2 p hp
      have hG' : Good n f' := by
        refine ⟨fun p hp => ?_, fun k hk => ?_⟩
        · simp only [f']
          split
          · exact hG.1 j (by omega)
          · split
            · exact hG.1 (j + 1) (by omega)
            · exact hG.1 p hp
        · obtain ⟨p, hp, hpk⟩ := hG.2 k hk
          by_cases h1 : p = j
          · subst h1
            exact ⟨p + 1, by omega, by simp only [f', if_pos]; exact hpk⟩
          · by_cases h2 : p = j + 1
            · subst h2
              exact ⟨j, by omega, by show (if j = j + 1 then f j else if j = j then f (j + 1) else f j) = k; rw [if_neg (by omega), if_pos rfl]; exact hpk⟩
            · exact ⟨p, hp, by simp only [f']; rw [if_neg h2, if_neg h1]; exact hpk⟩
      have hs' : ∀ p q, p < q → q ≤ i → q ≠ j → v (f' q) ≤ v (f' p) := by
        intro p q hpq hq hqj
        have a := fun p q h1 h2 h3 => hs p q h1 h2 h3
        simp only [f']
        by_cases q1 : q = j + 1
        · subst q1
          rw [if_pos rfl, if_neg (show ¬ p = j + 1 by omega)]
          by_cases p1 : p = j
          · rw [if_pos p1]; omega
          · rw [if_neg p1]; exact a p j (by omega) (by omega) (by omega)
        · rw [if_neg q1, if_neg hqj]
          by_cases p1 : p = j + 1
          · rw [if_pos p1]; exact a j q (by omega) hq q1
          · rw [if_neg p1]
            by_cases p2 : p = j
            · rw [if_pos p2]; exact a (j + 1) q (by omega) hq q1
            · rw [if_neg p2]; exact a p q hpq hq q1
      obtain ⟨r, b, D2, f2, e1, e2, e3, e4⟩ := inner_sort h hn hi j D' f' (by omega) hR' hG' hs'
      refine ⟨r, b, D2, f2, ?_, e2, e3, e4⟩
      rw [← e1]
      refine loopF_next ?_
      show slices_insertionSortCmpFunc_int64__impl_StrongBins_1_4.s1 0 P ((j + 1 : Nat) : Int) D = _
      unfold slices_insertionSortCmpFunc_int64__impl_StrongBins_1_4.s1
      have g0 : (D.set (j + 1) ((f j : Nat) : Int))[j]? = some ((f j : Nat) : Int) := by rw [List.getElem?_set_ne (by omega)]; exact r0
      simp only [hgt, if_true, hw, idx_nat, r1, r0, some_bind', c1, c2, setF_nat l1, g0, setF_nat (show j < (D.set (j + 1) ((f j : Nat) : Int)).length by simp; omega), decide_eq_true hv]
      rfl
    · refine ⟨((j + 1 : Nat) : Int), false, D, f, loopF_stop ?_, hR, hG, fun p q hpq hq => ?_⟩
      · show slices_insertionSortCmpFunc_int64__impl_StrongBins_1_4.s1 0 P ((j + 1 : Nat) : Int) D = _
        unfold slices_insertionSortCmpFunc_int64__impl_StrongBins_1_4.s1
        simp only [hgt, if_true, hw, idx_nat, r1, r0, some_bind', c1, c2, decide_eq_false hv, Bool.false_eq_true, if_false]
      · by_cases hqj : q = j + 1
        · subst hqj
          by_cases p1 : p = j
          · subst p1; omega
          · have := hs p j (by omega) (by omega) (by omega)
            omega
        · exact hs p q hpq hq hqj

theorem outer_sort {P : List (Option Nat)} {n : Nat} {v : Nat → Int} (h : Pw P n v) (h1 : 1 ≤ n) (hn : n ≤ 100) {D : List Int} {f : Nat → Nat} (hR : Rep n D f) (hG : Good n f) :
    ∃ D' f', slices_insertionSortCmpFunc_int64__impl_StrongBins_1_4 D 0 (n : Int) P = some (D', P) ∧ Rep n D' f' ∧ Good n f' ∧ ∀ p q, p < q → q < n → v (f' q) ≤ v (f' p) := by
  have A := loop_ex (S := List Int) (step := fun (s : (Int × (List (Int)))) => slices_insertionSortCmpFunc_int64__impl_StrongBins_1_4.s0 0 (n : Int) P s.1 s.2) (fun s k => (((k + 1 : Nat) : Int), s)) (fun k s => ∃ f', Rep n s f' ∧ Good n f' ∧ ∀ p q, p < q → q ≤ k → v (f' q) ≤ v (f' p)) (n - 1) (fun s => ((n : Int), false, s)) D ⟨f, hR, hG, fun p q h1 h2 => by omega⟩ (fun k s hk hI => by
    obtain ⟨f', i1, i2, i3⟩ := hI
    obtain ⟨r, b, D', f2, e1, e2, e3, e4⟩ := inner_sort h hn (show k + 1 < n by omega) (k + 1) s f' (Nat.le_refl _) i1 i2 (fun p q hpq hq hne => i3 p q hpq (by omega))
    refine ⟨D', ?_, f2, e2, e3, e4⟩
    show slices_insertionSortCmpFunc_int64__impl_StrongBins_1_4.s0 0 (n : Int) P ((k + 1 : Nat) : Int) s = _
    unfold slices_insertionSortCmpFunc_int64__impl_StrongBins_1_4.s0
    rw [if_pos (by simp; omega), e1]
    simp only [some_bind', one_more (show k + 1 ≤ 1000000000 by omega)]) (fun s hI => by
    show slices_insertionSortCmpFunc_int64__impl_StrongBins_1_4.s0 0 (n : Int) P ((n - 1 + 1 : Nat) : Int) s = _
    unfold slices_insertionSortCmpFunc_int64__impl_StrongBins_1_4.s0
    rw [show n - 1 + 1 = n by omega, if_neg (by simp)]
    simp)
  obtain ⟨s, A1, f', i1, i2, i3⟩ := A
  refine ⟨s, f', ?_, i1, i2, fun p q hpq hq => i3 p q hpq (by omega)⟩
  unfold slices_insertionSortCmpFunc_int64__impl_StrongBins_1_4
  have hw : IntKind.wrap .i64 ((0 : Int) + 1) = ((0 + 1 : Nat) : Int) := by decide
  rw [hw, A1]
  rfl

theorem strong_ok {L : List (Option Nat × Option Nat)} {P : List (Option Nat)} {n : Nat} {v : Nat → Int} (hP : impl_PowersIn L = some (P, true)) (h : Pw P n v) (h1 : 1 ≤ n) (hn : n ≤ 10) :
    ∃ j, impl_StrongBins L 1 = some ([((j : Nat) : Int)], true) ∧ j < n ∧ ∀ k, k < n → v k ≤ v j := by
  have A := loop_ex (S := List Int) (step := fun (s : ((List (Int)) × Int)) => impl_StrongBins.s0 (P, true) s.1 s.2) (fun s k => (s, (k : Int))) (fun k s => s.length = k ∧ ∀ p, p < k → s[p]? = some ((p : Nat) : Int)) n (fun s => ((n : Int), false, s)) [] ⟨rfl, fun p hp => by omega⟩ (fun k s hk hI => by
    obtain ⟨i1, i2⟩ := hI
    refine ⟨s ++ [((k : Nat) : Int)], ?_, by simp [i1], fun p hp => ?_⟩
    · show impl_StrongBins.s0 (P, true) s (k : Int) = _
      unfold impl_StrongBins.s0
      rw [if_pos (by simp [h.len]; omega), if_pos (by simp; omega), one_more (by omega)]
    · by_cases hpk : p = k
      · subst hpk
        rw [List.getElem?_append_right (by omega), i1]; simp
      · rw [List.getElem?_append_left (by omega)]
        exact i2 p (by omega)) (fun s hI => by
    show impl_StrongBins.s0 (P, true) s (n : Int) = _
    unfold impl_StrongBins.s0
    rw [if_neg (by simp [h.len])]
    simp [h.len])
  obtain ⟨D, A1, A2, A3⟩ := A
  obtain ⟨D', f, s1, ⟨r1, r2⟩, ⟨g1, g2⟩, s2⟩ := outer_sort h h1 (by omega) (D := D) (f := fun p => p) ⟨A2, A3⟩ ⟨fun p hp => hp, fun k hk => ⟨k, hk, rfl⟩⟩
  refine ⟨f 0, ?_, g1 0 (by omega), fun k hk => ?_⟩
  · have e1 : slices_SortStableFunc_int64_int64__impl_StrongBins_1 D P = some (D', P) := by
      unfold slices_SortStableFunc_int64_int64__impl_StrongBins_1 slices_stableCmpFunc_int64__impl_StrongBins_1_2
      have l1 : loopF (fun (s : (Int × Int × (List (Int)) × (List (Option Nat)))) => slices_stableCmpFunc_int64__impl_StrongBins_1_2.s0 (D.length : Int) s.1 s.2.1 s.2.2.1 s.2.2.2) (0, 20, D, P) = some (0, 20, false, D, P) := by
        refine loopF_stop ?_
        show slices_stableCmpFunc_int64__impl_StrongBins_1_2.s0 (D.length : Int) 0 20 D P = _
        unfold slices_stableCmpFunc_int64__impl_StrongBins_1_2.s0
        have : decide ((20 : Int) ≤ (D.length : Int)) = false := by rw [A2]; simp; omega
        rw [this]; rfl
      have l2 : loopF (fun (s : (Int × Int × Int)) => slices_stableCmpFunc_int64__impl_StrongBins_1_2.s1 (D.length : Int) s.1 s.2.1 s.2.2) (20, 0, 20) = some (20, 0, 20, false) := by
        refine loopF_stop ?_
        show slices_stableCmpFunc_int64__impl_StrongBins_1_2.s1 (D.length : Int) 20 0 20 = _
        unfold slices_stableCmpFunc_int64__impl_StrongBins_1_2.s1
        have : decide ((20 : Int) < (D.length : Int)) = false := by rw [A2]; simp; omega
        rw [this]; rfl
      rw [l1]
      simp only [some_bind', l2]
      rw [A2, s1]
      rfl
    have d0 := r2 0 (by omega)
    have e2 : sub D' 0 (imin 1 (D'.length : Int)) = some [((f 0 : Nat) : Int)] := by
      have hm : imin 1 (D'.length : Int) = 1 := by rw [r1]; unfold imin; split <;> omega
      rw [hm]
      unfold sub
      rw [if_pos ⟨by decide, by decide, by rw [r1]; omega⟩]
      cases D' with
      | nil => simp at d0
      | cons x t =>
        simp at d0
        subst d0
        simp
    have e3 : slices_Sort_I [((f 0 : Nat) : Int)] = some [((f 0 : Nat) : Int)] := by
      unfold slices_Sort_I
      rw [if_pos (by simp), List.mergeSort_singleton]
    unfold impl_StrongBins impl_within
    simp only [Int.ofNat_zero] at A1
    rw [hP]
    have c1 : (if decide ((1 : Int) ≥ 0) = true then some (decide ((1 : Int) ≤ 64)) else some false) = some true := by decide
    simp only [some_bind', c1, Bool.not_true, Bool.false_eq_true, if_false]
    rw [A1]
    simp only [some_bind', e1, e2, e3]
  · obtain ⟨p, hp, rfl⟩ := g2 k hk
    by_cases h0 : p = 0
    · subst h0; exact Int.le_refl _
    · exact s2 0 p (by omega) hp
end Go.H
