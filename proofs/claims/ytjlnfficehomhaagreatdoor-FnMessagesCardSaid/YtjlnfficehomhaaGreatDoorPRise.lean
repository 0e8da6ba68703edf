/- Rising lists: sorted and freed of what stands twice, or built by putting each number to its place. -/
import Derived.Lib.SlicesCompact
import Derived.Test.YtjlnfficehomhaaGreatDoorLibA
set_option linter.unusedVariables false
namespace Go.H

/-- a number put to its place among rising ones, once -/
def ins : List Int → Int → List Int
  | [], n => [n]
  | x :: l, n => if x ≥ n then (if x > n then n :: x :: l else x :: l) else x :: ins l n

theorem ins_mem (n z : Int) : ∀ l : List Int, z ∈ ins l n ↔ z = n ∨ z ∈ l
  | [] => by simp [ins]
  | x :: l => by
    unfold ins
    split
    · split
      · simp
      · have : x = n := by omega
        subst this
        simp
    · rw [List.mem_cons, ins_mem n z l, List.mem_cons]
      constructor
      · rintro (h | h | h)
        · exact .inr (.inl h)
        · exact .inl h
        · exact .inr (.inr h)
      · rintro (h | h | h)
        · exact .inr (.inl h)
        · exact .inl h
        · exact .inr (.inr h)

theorem ins_rise (n : Int) : ∀ l : List Int, l.Pairwise (· < ·) → (ins l n).Pairwise (· < ·)
  | [], _ => by simp [ins]
  | x :: l, h => by
    rw [List.pairwise_cons] at h
    unfold ins
    split
    · split
      · rw [List.pairwise_cons]
        refine ⟨fun y hy => ?_, List.pairwise_cons.2 h⟩
        rcases List.mem_cons.1 hy with rfl | hy
        · omega
        · have := h.1 y hy; omega
      · exact List.pairwise_cons.2 h
    · rw [List.pairwise_cons]
      refine ⟨fun y hy => ?_, ins_rise n l h.2⟩
      rcases (ins_mem n y l).1 hy with rfl | hy
      · omega
      · exact h.1 y hy

theorem ins_len (n : Int) : ∀ l : List Int, (ins l n).length ≤ l.length + 1
  | [] => by simp [ins]
  | x :: l => by
    unfold ins
    split
    · split <;> simp
    · have := ins_len n l
      simp; omega

/-- rising lists with the same members are one -/
theorem rise_eq : ∀ {a b : List Int}, a.Pairwise (· < ·) → b.Pairwise (· < ·) → (∀ z, z ∈ a ↔ z ∈ b) → a = b
  | [], [], _, _, _ => rfl
  | [], y :: b, _, _, h => by have := (h y).2 (by simp); simp at this
  | x :: a, [], _, _, h => by have := (h x).1 (by simp); simp at this
  | x :: a, y :: b, ha, hb, h => by
    rw [List.pairwise_cons] at ha hb
    have hxy : x = y := by
      have h1 := (h x).1 (by simp)
      have h2 := (h y).2 (by simp)
      rcases List.mem_cons.1 h1 with h1 | h1
      · exact h1
      · rcases List.mem_cons.1 h2 with h2 | h2
        · exact h2.symm
        · have := hb.1 x h1
          have := ha.1 y h2
          omega
    subst hxy
    congr 1
    refine rise_eq ha.2 hb.2 fun z => ?_
    constructor
    · intro hz
      have := (h z).1 (by simp [hz])
      rcases List.mem_cons.1 this with h1 | h1
      · have := ha.1 z hz; omega
      · exact h1
    · intro hz
      have := (h z).2 (by simp [hz])
      rcases List.mem_cons.1 this with h1 | h1
      · have := hb.1 z hz; omega
      · exact h1

/-- numbers put to their places, one after another -/
def insAll (s : List Int) (l : List Int) : List Int := l.foldl ins s
theorem insAll_rise (l : List Int) : ∀ s : List Int, s.Pairwise (· < ·) → (insAll s l).Pairwise (· < ·) := by
  induction l with
  | nil => intro s h; exact h
  | cons x l ih => intro s h; exact ih _ (ins_rise x s h)
theorem insAll_mem (z : Int) (l : List Int) : ∀ s : List Int, z ∈ insAll s l ↔ z ∈ s ∨ z ∈ l := by
  induction l with
  | nil => intro s; simp [insAll]
  | cons x l ih =>
    intro s
    have := ih (ins s x)
    unfold insAll at this ⊢
    rw [List.foldl_cons, this, ins_mem, List.mem_cons]
    constructor
    · rintro ((h | h) | h)
      · exact .inr (.inl h)
      · exact .inl h
      · exact .inr (.inr h)
    · rintro (h | h | h)
      · exact .inl (.inr h)
      · exact .inl (.inl h)
      · exact .inr h

/-- what is sorted and freed of what stands twice -/
theorem compact_sort (l : List Int) : Lib.compact (l.mergeSort fun x y => decide (x ≤ y)) = insAll [] l := by
  have hperm := List.mergeSort_perm l (fun x y => decide (x ≤ y))
  have hsort : (l.mergeSort fun x y => decide (x ≤ y)).Pairwise (fun x y => decide (x ≤ y) = true) := List.pairwise_mergeSort (by intro a b c h1 h2; simp at *; omega) (by intro a b; simp; omega) l
  generalize hs : l.mergeSort (fun x y => decide (x ≤ y)) = s at *
  have hle : ∀ i j, i ≤ j → j < s.length → s[i]?.getD 0 ≤ s[j]?.getD 0 := by
    intro i j hij hj
    by_cases h : i = j
    · subst h; exact Int.le_refl _
    · rw [List.getElem?_eq_getElem (show i < s.length by omega), List.getElem?_eq_getElem hj]
      have := List.pairwise_iff_getElem.1 hsort i j (by omega) hj (by omega)
      simpa using this
  have hget : ∀ j, j < s.length → (s.toArray)[j]! = s[j]?.getD 0 := by
    intro j hj
    rw [List.getElem?_eq_getElem hj, Option.getD_some, getElem!_pos s.toArray j (by simpa using hj)]
    simp
  refine rise_eq ?_ (insAll_rise l [] List.Pairwise.nil) fun z => ?_
  · unfold Lib.compact Lib.compactUpTo
    rw [List.pairwise_map]
    refine List.Pairwise.imp_of_mem ?_ (List.Pairwise.filter _ List.pairwise_lt_range)
    intro a b ha hb hab
    have hb2 := List.mem_filter.1 hb
    have hbl := List.mem_range.1 hb2.1
    have hk := hb2.2
    unfold Lib.keeps at hk
    have hk := of_decide_eq_true hk
    rcases hk with h0 | hne
    · omega
    · rw [hget b hbl, hget (b - 1) (by omega)] at hne
      rw [hget a (by omega), hget b hbl]
      have h1 := hle a (b - 1) (by omega) (by omega)
      have h2 := hle (b - 1) b (by omega) hbl
      omega
  · have hm : z ∈ Lib.compact s ↔ z ∈ s := by
      unfold Lib.compact Lib.compactUpTo
      rw [List.mem_map]
      constructor
      · rintro ⟨j, hj, rfl⟩
        have hj := List.mem_range.1 (List.mem_filter.1 hj).1
        rw [hget j hj, List.getElem?_eq_getElem hj]
        exact List.getElem_mem hj
      · intro hz
        obtain ⟨i, hi, rfl⟩ := List.getElem_of_mem hz
        -- the first place with this number
        have key : ∀ i, ∀ hi : i < s.length, ∃ j, j < s.length ∧ Lib.keeps s.toArray j = true ∧ (s.toArray)[j]! = s[i] := by
          intro i
          induction i with
          | zero => intro hi; exact ⟨0, hi, by simp [Lib.keeps], by rw [hget 0 hi, List.getElem?_eq_getElem hi]; rfl⟩
          | succ i ih =>
            intro hi
            by_cases hk : Lib.keeps s.toArray (i + 1) = true
            · exact ⟨i + 1, hi, hk, by rw [hget _ hi, List.getElem?_eq_getElem hi]; rfl⟩
            · obtain ⟨j, j1, j2, j3⟩ := ih (by omega)
              refine ⟨j, j1, j2, ?_⟩
              rw [j3]
              unfold Lib.keeps at hk
              simp only [decide_eq_true_eq, not_or, Nat.add_sub_cancel] at hk
              have := Classical.not_not.1 hk.2
              rw [hget _ hi, hget _ (show i < s.length by omega), List.getElem?_eq_getElem hi, List.getElem?_eq_getElem (show i < s.length by omega)] at this
              exact this.symm
        obtain ⟨j, j1, j2, j3⟩ := key i hi
        exact ⟨j, List.mem_filter.2 ⟨List.mem_range.2 j1, j2⟩, j3⟩
    rw [hm, insAll_mem, hperm.mem_iff]
    simp
end Go.H
