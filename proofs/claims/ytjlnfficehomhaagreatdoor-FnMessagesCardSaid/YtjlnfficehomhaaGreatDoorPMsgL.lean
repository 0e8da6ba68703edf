/- Messages: two orders of making them, one list. -/
import Derived.Test.YtjlnfficehomhaaGreatDoorPLex
set_option linter.unusedVariables false
namespace Go.H

/-- by who has, who needs, row -/
def msgS (n : Nat) (H : Nat → List Int) (inS : Nat → Int → Bool) : List (List Int) :=
  (List.range n).flatMap fun a => (List.range n).flatMap fun b => ((H b).filter fun r => decide (a ≠ b) && inS a r).map fun r => [(a : Int), (b : Int), r]
/-- by who needs, row, who has -/
def msgI (n : Nat) (H : Nat → List Int) (inS : Nat → Int → Bool) : List (List Int) :=
  (List.range n).flatMap fun b => (H b).flatMap fun r => ((List.range n).filter fun a => decide (a ≠ b) && inS a r).map fun (a : Nat) => [((a : Nat) : Int), (b : Int), r]

theorem mem_msgS {n : Nat} {H : Nat → List Int} {inS : Nat → Int → Bool} {x : List Int} : x ∈ msgS n H inS ↔ ∃ (a b : Nat) (r : Int), a < n ∧ b < n ∧ r ∈ H b ∧ (decide (a ≠ b) && inS a r) = true ∧ x = [(a : Int), (b : Int), r] := by
  unfold msgS
  simp only [List.mem_flatMap, List.mem_range, List.mem_map, List.mem_filter]
  constructor
  · rintro ⟨a, ha, b, hb, r, ⟨hr, hc⟩, rfl⟩
    exact ⟨a, b, r, ha, hb, hr, hc, rfl⟩
  · rintro ⟨a, b, r, ha, hb, hr, hc, rfl⟩
    exact ⟨a, ha, b, hb, r, ⟨hr, hc⟩, rfl⟩
theorem mem_msgI {n : Nat} {H : Nat → List Int} {inS : Nat → Int → Bool} {x : List Int} : x ∈ msgI n H inS ↔ ∃ (a b : Nat) (r : Int), a < n ∧ b < n ∧ r ∈ H b ∧ (decide (a ≠ b) && inS a r) = true ∧ x = [(a : Int), (b : Int), r] := by
  unfold msgI
  simp only [List.mem_flatMap, List.mem_range, List.mem_map, List.mem_filter]
  constructor
  · rintro ⟨b, hb, r, hr, a, ⟨ha, hc⟩, rfl⟩
    exact ⟨a, b, r, ha, hb, hr, hc, rfl⟩
  · rintro ⟨a, b, r, ha, hb, hr, hc, rfl⟩
    exact ⟨b, hb, r, hr, a, ⟨ha, hc⟩, rfl⟩

theorem lex3 (a b c x y z : Int) : lexC [a, b, c] [x, y, z] = if a < x then -1 else if x < a then 1 else if b < y then -1 else if y < b then 1 else if c < z then -1 else if z < c then 1 else 0 := by
  simp only [lexC]

/-- strictly ascending, for all that are told in their order -/
theorem pairwise_flatMap' {α β : Type} {R : β → β → Prop} {f : α → List β} : ∀ l : List α, (∀ a ∈ l, (f a).Pairwise R) → l.Pairwise (fun a b => ∀ x ∈ f a, ∀ y ∈ f b, R x y) → (l.flatMap f).Pairwise R
  | [], _, _ => by simp
  | a :: l, h1, h2 => by
    rw [List.flatMap_cons]
    refine List.pairwise_append.2 ⟨h1 a List.mem_cons_self, pairwise_flatMap' l (fun b hb => h1 b (List.mem_cons_of_mem _ hb)) (List.pairwise_cons.1 h2).2, fun x hx y hy => ?_⟩
    obtain ⟨b, hb, hy⟩ := List.mem_flatMap.1 hy
    exact (List.pairwise_cons.1 h2).1 b hb x hx y hy

theorem range_pairwise (n : Nat) : (List.range n).Pairwise (· < ·) := List.pairwise_lt_range

theorem msgS_sorted {n : Nat} {H : Nat → List Int} {inS : Nat → Int → Bool} (hH : ∀ b, (H b).Pairwise (· < ·)) : (msgS n H inS).Pairwise (fun x y => lexC x y = -1) := by
  unfold msgS
  refine pairwise_flatMap' _ (fun a _ => pairwise_flatMap' _ (fun b _ => ?_) ?_) ?_
  · rw [List.pairwise_map]
    refine ((hH b).filter _).imp fun h => ?_
    rw [lex3, if_neg (by omega), if_neg (by omega), if_neg (by omega), if_neg (by omega), if_pos h]
  · refine (range_pairwise n).imp fun h x hx y hy => ?_
    obtain ⟨r, _, rfl⟩ := List.mem_map.1 hx
    obtain ⟨s, _, rfl⟩ := List.mem_map.1 hy
    rw [lex3, if_neg (by omega), if_neg (by omega), if_pos (by omega)]
  · refine (range_pairwise n).imp fun h x hx y hy => ?_
    obtain ⟨b, _, hx⟩ := List.mem_flatMap.1 hx
    obtain ⟨c, _, hy⟩ := List.mem_flatMap.1 hy
    obtain ⟨r, _, rfl⟩ := List.mem_map.1 hx
    obtain ⟨s, _, rfl⟩ := List.mem_map.1 hy
    rw [lex3, if_pos (by omega)]

theorem msgS_nodup {n : Nat} {H : Nat → List Int} {inS : Nat → Int → Bool} (hH : ∀ b, (H b).Pairwise (· < ·)) : (msgS n H inS).Nodup :=
  (msgS_sorted hH).imp fun {x y} h e => by subst e; rw [lexC_self] at h; cases h

theorem msgI_nodup {n : Nat} {H : Nat → List Int} {inS : Nat → Int → Bool} (hH : ∀ b, (H b).Pairwise (· < ·)) : (msgI n H inS).Nodup := by
  unfold msgI List.Nodup
  refine pairwise_flatMap' _ (fun b _ => pairwise_flatMap' _ (fun r _ => ?_) ?_) ?_
  · rw [List.pairwise_map]
    refine ((range_pairwise n).filter _).imp ?_
    intro x y h e
    simp only [List.cons.injEq] at e
    omega
  · refine (hH b).imp fun h x hx y hy e => ?_
    obtain ⟨a, _, rfl⟩ := List.mem_map.1 hx
    obtain ⟨c, _, rfl⟩ := List.mem_map.1 hy
    simp only [List.cons.injEq] at e
    omega
  · refine (range_pairwise n).imp fun h x hx y hy e => ?_
    obtain ⟨r, _, hx⟩ := List.mem_flatMap.1 hx
    obtain ⟨s, _, hy⟩ := List.mem_flatMap.1 hy
    obtain ⟨a, _, rfl⟩ := List.mem_map.1 hx
    obtain ⟨c, _, rfl⟩ := List.mem_map.1 hy
    simp only [List.cons.injEq] at e
    omega

theorem msg_perm {n : Nat} {H : Nat → List Int} {inS : Nat → Int → Bool} (hH : ∀ b, (H b).Pairwise (· < ·)) : (msgI n H inS).Perm (msgS n H inS) :=
  (List.perm_ext_iff_of_nodup (msgI_nodup hH) (msgS_nodup hH)).2 fun x => by rw [mem_msgI, mem_msgS]

/-- sorted, the one is the other -/
theorem msg_sort {n : Nat} {H : Nat → List Int} {inS : Nat → Int → Bool} (hH : ∀ b, (H b).Pairwise (· < ·)) : (msgI n H inS).mergeSort (fun a b => !decide (lexC b a < 0)) = msgS n H inS := by
  have tr : ∀ a b c : List Int, (!decide (lexC b a < 0)) = true → (!decide (lexC c b < 0)) = true → (!decide (lexC c a < 0)) = true := by
    intro a b c h k
    simp only [Bool.not_eq_true', decide_eq_false_iff_not] at *
    have h1 := lexC_val b a
    have h2 := lexC_val c b
    have h3 := lexC_val c a
    intro hh
    have e3 : lexC c a = -1 := by omega
    rcases h1 with e | e | e
    · omega
    · have := lexC_eq _ _ e
      subst this
      omega
    · have e2 : lexC a b = -1 := by rw [lexC_anti, e]
      have := lexC_trans _ _ _ e3 e2
      omega
  have tot : ∀ a b : List Int, ((!decide (lexC b a < 0)) || (!decide (lexC a b < 0))) = true := by
    intro a b
    have h1 := lexC_anti a b
    have h2 := lexC_val a b
    by_cases h : lexC b a < 0
    · simp [h]; omega
    · simp [h]
  refine List.Perm.eq_of_pairwise (le := fun x y => (!decide (lexC y x < 0)) = true) ?_ (List.pairwise_mergeSort tr tot _) ?_ ((List.mergeSort_perm _ _).trans (msg_perm hH))
  · intro a b _ _ h1 h2
    simp only [Bool.not_eq_true', decide_eq_false_iff_not] at h1 h2
    have := lexC_anti a b
    exact lexC_eq _ _ (by omega)
  · refine (msgS_sorted hH).imp fun {x y} h => ?_
    simp only [Bool.not_eq_true', decide_eq_false_iff_not]
    have := lexC_anti x y
    omega
end Go.H
