/- Messages: the strips lie inside the sheet; the reference's loops and the program's. -/
import Derived.Test.YtmgoblppedmdhaaPMsgA
import Derived.Test.YtmgoblppedmdhaaPMsgL
set_option linter.unusedVariables false
namespace Go.H
open Go Ieee

/-- one worker's strip -/
def stripStep (h : Int) (n : Nat) : Nat → List (Int × Int) × Int → List (Int × Int) × Int := fun k s => (if decide (rowsOf h n k > 0) = true then s.1 ++ [(s.2, rowsOf h n k)] else s.1, IntKind.wrap .i64 (s.2 + rowsOf h n k))
def stripsL (h : Int) (n : Nat) : List (Int × Int) := (foldN (stripStep h n) n ([], 0)).1
/-- a strip inside the sheet -/
def stripGood (h : Nat) (p : Int × Int) : Bool := decide (0 ≤ p.1) && decide (p.1 < h) && decide (1 ≤ p.2) && decide (p.2 ≤ h - p.1)

theorem strips_good : ∀ h, h < 17 → ∀ n, n < 9 → ((stripsL (h : Nat) n).all (stripGood h) && decide ((stripsL (h : Nat) n).length ≤ 8)) = true := by decide +kernel

theorem strips_is (h : Int) (n : Nat) (h1 : 1 ≤ n) (h2 : n ≤ 8) : spec_l07Strips h n = some (stripsL h n) := by
  unfold spec_l07Strips
  have A := loop_fold (step := fun (s : ((List ((Int × Int))) × Int × Int)) => spec_l07Strips.s0 h n s.1 s.2.1 s.2.2) (fun (s : List (Int × Int) × Int) k => (s.1, s.2, (k : Int)))
    (stripStep h n) (fun k s => s.1.length ≤ k) n (fun s => (s.2, (n : Int), false, s.1)) ([], 0) (by simp) (fun k s hk hI => by
      obtain ⟨l, t⟩ := s
      simp only at hI
      constructor
      · show spec_l07Strips.s0 h n l t (k : Int) = _
        unfold spec_l07Strips.s0
        rw [if_pos (by simp; omega), if_neg (by omega), if_neg (by omega), ite_some, some_bind']
        have hr : (if decide ((k : Int) < Int.tmod h n) = true then IntKind.wrap .i64 (IntKind.wrap .i64 (Int.tdiv h n) + 1) else IntKind.wrap .i64 (Int.tdiv h n)) = rowsOf h n k := rfl
        rw [hr]
        rw [if_pos (show l.length + [(t, rowsOf h n k)].length ≤ 1000000000 by simp; omega), ite_some, some_bind', one_more (by omega)]
        rfl
      · simp only [stripStep]
        split
        · simp; omega
        · omega) (fun s hI => by
      obtain ⟨l, t⟩ := s
      show spec_l07Strips.s0 h n l t (n : Int) = _
      unfold spec_l07Strips.s0
      rw [if_neg (by simp)]
      simp)
  obtain ⟨A1, A2⟩ := A
  simp only [Int.ofNat_zero] at A1
  rw [A1]
  rfl

/-- the rows that a strip needs -/
def hal (h : Nat) (w : Bool) (p : Int × Int) : List Int := insAll [] (haloL h w p.1 (p.2.toNat + 2))

theorem hal_rise (h : Nat) (w : Bool) (p : Int × Int) : (hal h w p).Pairwise (· < ·) := insAll_rise _ [] List.Pairwise.nil

theorem good_has {h : Nat} {p : Int × Int} (g : stripGood h p = true) : ∃ fr ct : Nat, p = ((fr : Int), (ct : Int)) ∧ fr < h ∧ 1 ≤ ct ∧ ct ≤ h - fr := by
  obtain ⟨x, y⟩ := p
  unfold stripGood at g
  simp only [Bool.and_eq_true, decide_eq_true_eq] at g
  obtain ⟨fr, rfl⟩ := Int.eq_ofNat_of_zero_le (show 0 ≤ x by omega)
  obtain ⟨ct, rfl⟩ := Int.eq_ofNat_of_zero_le (show 0 ≤ y by omega)
  exact ⟨fr, ct, rfl, by omega, by omega, by omega⟩

theorem hal_len {h : Nat} (hh : h ≤ 16) (w : Bool) {p : Int × Int} (g : stripGood h p = true) : (hal h w p).length ≤ 18 := by
  obtain ⟨fr, ct, rfl, g1, g2, g3⟩ := good_has g
  have h1 := insAll_len (haloL h w fr (ct + 2)) []
  have h2 := haloL_len h w fr (ct + 2)
  unfold hal
  simp only [Int.toNat_natCast, List.length_nil] at h1 ⊢
  omega

/-- what a worker needs, by its number -/
def halB (h : Nat) (w : Bool) (L : List (Int × Int)) (b : Nat) : List Int := (L[b]?.map (hal h w)).getD []
def inA (L : List (Int × Int)) (a : Nat) (r : Int) : Bool := (L[a]?.map fun p => inP p r).getD false

theorem halB_rise (h : Nat) (w : Bool) (L : List (Int × Int)) (b : Nat) : (halB h w L b).Pairwise (· < ·) := by
  unfold halB
  cases L[b]? with
  | none => exact List.Pairwise.nil
  | some p => exact hal_rise h w p

theorem ne_nat (a b : Nat) : ((a : Int) != (b : Int)) = decide (a ≠ b) := by
  by_cases h : a = b
  · subst h; simp
  · have h2 : (a : Int) ≠ (b : Int) := by omega
    rw [decide_eq_true h]; simpa using h2

theorem flat_len {α : Type} (g : Nat → List α) (c : Nat) : ∀ n, (∀ k, k < n → (g k).length ≤ c) → ((List.range n).flatMap g).length ≤ c * n
  | 0, _ => by simp
  | n + 1, h => by
    have h1 := flat_len g c n (fun k hk => h k (by omega))
    have h2 := h n (by omega)
    rw [List.range_succ, List.flatMap_append, List.length_append, Nat.mul_succ]
    simp only [List.flatMap_cons, List.flatMap_nil, List.append_nil]
    omega

section
variable (w h : Nat) (b : Bool) (l m : List (Option Nat)) (L : List (Int × Int)) (hh1 : 1 ≤ h) (hh : h ≤ 16) (hL : L.length ≤ 8) (hg : ∀ p ∈ L, stripGood h p = true)
include hh hL hg

include hh1 in
theorem row_s1 (a : Nat) (ha : a < L.length) (s : List (List Int)) (hs : s.length ≤ 100000) :
    loopF (fun (s : ((List (List (Int))) × Int)) => spec_MessagesOf.s1 w h b l m L (a : Int) s.1 s.2) (s, 0) = some ((L.length : Int), false, s ++ (List.range L.length).flatMap fun k => ((halB h b L k).filter fun r => decide (a ≠ k) && inA L a r).map fun r => [(a : Int), (k : Int), r]) := by
  have hpa : L[a]? = some L[a] := List.getElem?_eq_getElem ha
  have A := loop_fold (step := fun (s : ((List (List (Int))) × Int)) => spec_MessagesOf.s1 w h b l m L (a : Int) s.1 s.2) (fun t k => (t, (k : Int))) (fun k t => t ++ ((halB h b L k).filter fun r => decide (a ≠ k) && inA L a r).map fun r => [(a : Int), (k : Int), r]) (fun k t => t.length ≤ s.length + 18 * k) L.length (fun t => ((L.length : Int), false, t)) s (by simp) (fun k t hk hI => by
    have hr : L[k]? = some L[k] := List.getElem?_eq_getElem hk
    have gk := hg L[k] (List.getElem_mem hk)
    have hlen := hal_len hh b gk
    have hB : halB h b L k = hal h b L[k] := by unfold halB; rw [hr]; rfl
    have hA : ∀ r, inA L a r = inP L[a] r := fun r => by unfold inA; rw [hpa]; rfl
    refine ⟨?_, ?_⟩
    · show spec_MessagesOf.s1 w h b l m L (a : Int) t (k : Int) = _
      unfold spec_MessagesOf.s1
      obtain ⟨fr, ct, e, g1, g2, g3⟩ := good_has gk
      have e2 : spec_l07Halo__el w h b l m L[k] = some (hal h b L[k]) := by
        rw [halo_el, e]
        exact spec_halo b l m fr ct hh1 hh g1 g2 g3
      rw [if_pos (decide_eq_true (Int.ofNat_lt.2 hk)), idx_nat, hr, some_bind', e2, some_bind', spec_rows L a k _ L[a] hpa (by omega) t (by omega), some_bind']
      simp only [one_more (show k ≤ 1000000000 by omega), hB, hA, ne_nat]
    · rw [List.length_append, List.length_map, hB]
      have := List.length_filter_le (fun r => decide (a ≠ k) && inA L a r) (hal h b L[k])
      omega) (fun t hI => by
    show spec_MessagesOf.s1 w h b l m L (a : Int) t (L.length : Int) = _
    unfold spec_MessagesOf.s1
    rw [if_neg (by simp)]
    simp)
  have A1 := A.1
  simp only [Int.ofNat_zero] at A1
  rw [fold_cat] at A1
  exact A1

theorem row_len (a : Nat) (ha : a < L.length) : ((List.range L.length).flatMap fun k => ((halB h b L k).filter fun r => decide (a ≠ k) && inA L a r).map fun r => [(a : Int), (k : Int), r]).length ≤ 144 := by
  have := flat_len (fun k => ((halB h b L k).filter fun r => decide (a ≠ k) && inA L a r).map fun r => [(a : Int), (k : Int), r]) 18 L.length (fun k hk => by
    have hr : L[k]? = some L[k] := List.getElem?_eq_getElem hk
    have gk := hg L[k] (List.getElem_mem hk)
    have hlen := hal_len hh b gk
    have hB : halB h b L k = hal h b L[k] := by unfold halB; rw [hr]; rfl
    rw [List.length_map, hB]
    have := List.length_filter_le (fun r => decide (a ≠ k) && inA L a r) (hal h b L[k])
    omega)
  omega

include hh1 in
theorem spec_all : loopF (fun (s : ((List (List (Int))) × Int)) => spec_MessagesOf.s0 w h b l m L s.1 s.2) (([] : List (List Int)), 0) = some ((L.length : Int), false, msgS L.length (halB h b L) (inA L)) := by
  have A := loop_fold (step := fun (s : ((List (List (Int))) × Int)) => spec_MessagesOf.s0 w h b l m L s.1 s.2) (fun t k => (t, (k : Int))) (fun a t => t ++ (List.range L.length).flatMap fun k => ((halB h b L k).filter fun r => decide (a ≠ k) && inA L a r).map fun r => [(a : Int), (k : Int), r]) (fun k t => t.length ≤ 144 * k) L.length (fun t => ((L.length : Int), false, t)) [] (by simp) (fun k t hk hI => by
    refine ⟨?_, ?_⟩
    · show spec_MessagesOf.s0 w h b l m L t (k : Int) = _
      unfold spec_MessagesOf.s0
      rw [if_pos (decide_eq_true (Int.ofNat_lt.2 hk)), row_s1 w h b l m L hh1 hh hL hg k hk t (by omega), some_bind']
      simp only [one_more (show k ≤ 1000000000 by omega)]
    · rw [List.length_append]
      have := row_len h b L hh hL hg k hk
      omega) (fun t hI => by
    show spec_MessagesOf.s0 w h b l m L t (L.length : Int) = _
    unfold spec_MessagesOf.s0
    rw [if_neg (by simp)]
    simp)
  have A1 := A.1
  simp only [Int.ofNat_zero] at A1
  rw [fold_cat, List.nil_append] at A1
  exact A1
end
end Go.H
