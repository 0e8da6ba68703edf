/- Messages: the program's loops. -/
import Derived.Test.YtjlnfficehomhaaGreatDoorPStrip
import Derived.Test.YtjlnfficehomhaaGreatDoorPMsgL
import Derived.Test.YtjlnfficehomhaaGreatDoorPMsgF
import Derived.Test.YtjlnfficehomhaaGreatDoorPCells
import Derived.Test.YtjlnfficehomhaaGreatDoorPHaloI
set_option linter.unusedVariables false
namespace Go.H
open Go Ieee

/-- a strip has a row -/
def inP (p : Int × Int) (r : Int) : Bool := decide (r ≥ p.1) && decide (r ≤ IntKind.wrap .i64 (IntKind.wrap .i64 (p.1 + p.2) - 1))

/-- the rows that a strip needs -/
def hal (h : Nat) (w : Bool) (p : Int × Int) : List Int := insAll [] (haloL h w p.1 (p.2.toNat + 2))

theorem hal_rise (h : Nat) (w : Bool) (p : Int × Int) : (hal h w p).Pairwise (· < ·) := insAll_rise _ [] List.Pairwise.nil

theorem hal_len {h : Nat} (hh : h ≤ 16) (w : Bool) {p : Int × Int} (g : stripGood h p = true) : (hal h w p).length ≤ 18 := by
  obtain ⟨fr, ct, rfl, g1, g2, g3⟩ := good_has g
  have h1 := insAll_len (haloL h w fr (ct + 2)) []
  have h2 := haloL_len h w fr (ct + 2)
  unfold hal
  simp only [Int.toNat_natCast, List.length_nil] at h1 ⊢
  omega

/-- what a worker needs, by its number -/
def halB (h : Nat) (w : Bool) (L : List (Int × Int)) (b : Nat) : List Int := (L[b]?.map (hal h w)).getD []
def inA (L : List (Int × Int)) (a : Nat) (r : Int) : Bool := (L[a]?.map fun p => inP p r).getD false

theorem halB_rise (h : Nat) (w : Bool) (L : List (Int × Int)) (b : Nat) : (halB h w L b).Pairwise (· < ·) := by
  unfold halB
  cases L[b]? with
  | none => exact List.Pairwise.nil
  | some p => exact hal_rise h w p

theorem ne_nat (a b : Nat) : ((a : Int) != (b : Int)) = decide (a ≠ b) := by
  by_cases h : a = b
  · subst h; simp
  · have h2 : (a : Int) ≠ (b : Int) := by omega
    rw [decide_eq_true h]; simpa using h2

theorem flat_len {α : Type} (g : Nat → List α) (c : Nat) : ∀ n, (∀ k, k < n → (g k).length ≤ c) → ((List.range n).flatMap g).length ≤ c * n
  | 0, _ => by simp
  | n + 1, h => by
    have h1 := flat_len g c n (fun k hk => h k (by omega))
    have h2 := h n (by omega)
    rw [List.range_succ, List.flatMap_append, List.length_append, Nat.mul_succ]
    simp only [List.flatMap_cons, List.flatMap_nil, List.append_nil]
    omega

section
variable (w h : Nat) (b : Bool) (l m : List (Option Nat)) (L : List (Int × Int)) (v : Bool) (hh1 : 1 ≤ h) (hh : h ≤ 16) (hL : L.length ≤ 8) (hg : ∀ p ∈ L, stripGood h p = true)

theorem fold_cells (c : Nat → Bool) (g : Nat → List Int) (n : Nat) : (List.range n).flatMap (fun k => if c k = true then [g k] else []) = ((List.range n).filter c).map g := flat_filter _ _ _

include hL in
theorem impl_row (k : Nat) (r : Int) (s : List (List Int)) (hs : s.length ≤ 1000000) :
    loopF (fun (s : ((List (List (Int))) × Int)) => impl_MessagesOf.s2 (L, v) (k : Int) r s.1 s.2) (s, 0) = some ((L.length : Int), false, s ++ ((List.range L.length).filter fun a => decide (a ≠ k) && inA L a r).map fun (a : Nat) => [((a : Nat) : Int), (k : Int), r]) := by
  have A := loop_fold (step := fun (s : ((List (List (Int))) × Int)) => impl_MessagesOf.s2 (L, v) (k : Int) r s.1 s.2) (fun t a => (t, (a : Int))) (fun a t => t ++ (if (decide (a ≠ k) && inA L a r) = true then [[(a : Int), (k : Int), r]] else [])) (fun a t => t.length ≤ s.length + a) L.length (fun t => ((L.length : Int), false, t)) s (by simp) (fun a t ha hI => by
    have hp : L[a]? = some L[a] := List.getElem?_eq_getElem ha
    have hA : inA L a r = inP L[a] r := by unfold inA; rw [hp]; rfl
    refine ⟨?_, ?_⟩
    · show impl_MessagesOf.s2 (L, v) (k : Int) r t (a : Int) = _
      unfold impl_MessagesOf.s2
      rw [if_pos (decide_eq_true (Int.ofNat_lt.2 ha))]
      simp only [idx_nat, hp, some_bind', (in_eq _ _ _).2, one_more (show a ≤ 1000000000 by omega), hA, ne_nat]
      have e : (decide (r ≥ L[a].1) && decide (r ≤ IntKind.wrap .i64 (IntKind.wrap .i64 (L[a].1 + L[a].2) - 1))) = inP L[a] r := rfl
      rw [e]
      cases h1 : decide (a ≠ k) with
      | false => simp
      | true =>
        cases h2 : inP L[a] r with
        | false => simp
        | true =>
          have hl : t.length + [[(a : Int), (k : Int), r]].length ≤ 1000000000 := by simp; omega
          simp only [if_true, some_bind', Bool.and_self, if_pos hl]
    · skip
      rw [List.length_append]
      split <;> simp <;> omega) (fun t hI => by
    show impl_MessagesOf.s2 (L, v) (k : Int) r t (L.length : Int) = _
    unfold impl_MessagesOf.s2
    rw [if_neg (by simp)]
    simp)
  have A1 := A.1
  simp only [Int.ofNat_zero] at A1
  rw [fold_cat, fold_cells] at A1
  exact A1

include hL in
theorem impl_rows (k : Nat) (R : List Int) (hR : R.length ≤ 1000) (s : List (List Int)) (hs : s.length ≤ 100000) :
    loopF (fun (s : ((List (List (Int))) × Int)) => impl_MessagesOf.s1 (L, v) (k : Int) R s.1 s.2) (s, 0) = some ((R.length : Int), false, s ++ R.flatMap fun r => ((List.range L.length).filter fun a => decide (a ≠ k) && inA L a r).map fun (a : Nat) => [((a : Nat) : Int), (k : Int), r]) := by
  have A := loop_fold (step := fun (s : ((List (List (Int))) × Int)) => impl_MessagesOf.s1 (L, v) (k : Int) R s.1 s.2) (fun t i => (t, (i : Int))) (fun i t => t ++ ((R[i]?.map fun r => ((List.range L.length).filter fun a => decide (a ≠ k) && inA L a r).map fun (a : Nat) => [((a : Nat) : Int), (k : Int), r]).getD [])) (fun i t => t.length ≤ s.length + 8 * i) R.length (fun t => ((R.length : Int), false, t)) s (by simp) (fun i t hi hI => by
    have hr : R[i]? = some R[i] := List.getElem?_eq_getElem hi
    rw [hr, Option.map_some, Option.getD_some]
    refine ⟨?_, ?_⟩
    · show impl_MessagesOf.s1 (L, v) (k : Int) R t (i : Int) = _
      unfold impl_MessagesOf.s1
      rw [if_pos (decide_eq_true (Int.ofNat_lt.2 hi)), idx_nat, hr, some_bind', impl_row L v hL k R[i] t (by omega), some_bind']
      simp only [one_more (show i ≤ 1000000000 by omega)]
    · rw [List.length_append, List.length_map]
      have := List.length_filter_le (fun a => decide (a ≠ k) && inA L a R[i]) (List.range L.length)
      rw [List.length_range] at this
      omega) (fun t hI => by
    show impl_MessagesOf.s1 (L, v) (k : Int) R t (R.length : Int) = _
    unfold impl_MessagesOf.s1
    rw [if_neg (by simp)]
    simp)
  have A1 := A.1
  simp only [Int.ofNat_zero] at A1
  rw [fold_cat, flat_range] at A1
  exact A1

theorem flatl_len {α β : Type} (g : α → List β) (c : Nat) : ∀ R : List α, (∀ k ∈ R, (g k).length ≤ c) → (R.flatMap g).length ≤ c * R.length
  | [], _ => by simp
  | x :: R, h => by
    have h1 := flatl_len g c R (fun k hk => h k (List.mem_cons_of_mem _ hk))
    have h2 := h x List.mem_cons_self
    rw [List.flatMap_cons, List.length_append, List.length_cons, Nat.mul_succ]
    omega

include hh hL hg in
theorem impl_len (k : Nat) (hk : k < L.length) : ((halB h b L k).flatMap fun r => ((List.range L.length).filter fun a => decide (a ≠ k) && inA L a r).map fun (a : Nat) => [((a : Nat) : Int), (k : Int), r]).length ≤ 144 := by
  have h1 := flatl_len (fun r => ((List.range L.length).filter fun a => decide (a ≠ k) && inA L a r).map fun (a : Nat) => [((a : Nat) : Int), (k : Int), r]) 8 (halB h b L k) (fun r _ => by
    rw [List.length_map]
    have := List.length_filter_le (fun a => decide (a ≠ k) && inA L a r) (List.range L.length)
    rw [List.length_range] at this
    omega)
  have hr : L[k]? = some L[k] := List.getElem?_eq_getElem hk
  have hlen := hal_len hh b (hg L[k] (List.getElem_mem hk))
  have hB : halB h b L k = hal h b L[k] := by unfold halB; rw [hr]; rfl
  rw [hB] at h1 ⊢
  omega

include hh1 hh hL hg in
theorem impl_all : loopF (fun (s : ((List (List (Int))) × Int)) => impl_MessagesOf.s0 w h b l m (L, v) s.1 s.2) (([] : List (List Int)), 0) = some ((L.length : Int), false, msgI L.length (halB h b L) (inA L)) ∧ (msgI L.length (halB h b L) (inA L)).length ≤ 144 * L.length := by
  have A := loop_fold (step := fun (s : ((List (List (Int))) × Int)) => impl_MessagesOf.s0 w h b l m (L, v) s.1 s.2) (fun t k => (t, (k : Int))) (fun k t => t ++ (halB h b L k).flatMap fun r => ((List.range L.length).filter fun a => decide (a ≠ k) && inA L a r).map fun (a : Nat) => [((a : Nat) : Int), (k : Int), r]) (fun k t => t.length ≤ 144 * k) L.length (fun t => ((L.length : Int), false, t)) [] (by simp) (fun k t hk hI => by
    have hr : L[k]? = some L[k] := List.getElem?_eq_getElem hk
    have gk := hg L[k] (List.getElem_mem hk)
    have hlen := hal_len hh b gk
    have hB : halB h b L k = hal h b L[k] := by unfold halB; rw [hr]; rfl
    refine ⟨?_, ?_⟩
    · show impl_MessagesOf.s0 w h b l m (L, v) t (k : Int) = _
      unfold impl_MessagesOf.s0
      obtain ⟨fr, ct, e, g1, g2, g3⟩ := good_has gk
      have e2 : impl_haloRows w h b l m L[k].1 L[k].2 = some (hal h b L[k]) := by
        rw [e]
        exact impl_halo b l m fr ct hh1 hh g1 g2 g3
      rw [if_pos (decide_eq_true (Int.ofNat_lt.2 hk)), idx_nat, hr, some_bind', e2, some_bind', impl_rows L v hL k _ (by omega) t (by omega), some_bind']
      simp only [one_more (show k ≤ 1000000000 by omega), hB]
    · rw [List.length_append]
      have := impl_len h b L hh hL hg k hk
      omega) (fun t hI => by
    show impl_MessagesOf.s0 w h b l m (L, v) t (L.length : Int) = _
    unfold impl_MessagesOf.s0
    rw [if_neg (by simp)]
    simp)
  have A1 := A.1
  have A2 := A.2
  simp only [Int.ofNat_zero] at A1
  rw [fold_cat, List.nil_append] at A1 A2
  exact ⟨A1, A2⟩
end
end Go.H
