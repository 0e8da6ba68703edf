/- The library's sort and compaction of whole numbers, as calls that are told by heaps. -/
import Derived.Test.YtjlnfficehomhaaGreatDoorLibB
import Derived.Test.YtjlnfficehomhaaGreatDoorGShelf
import Derived.Sort.OwnSortedInts
set_option linter.unusedVariables false
namespace Go.H
open Go Go.Proofs Go.Sort

section
variable {α : Type} [Inhabited α]

theorem heap_put {w : World} {g n : Nat} {os : Array Obj} {cur : Array Value} {e : TypeId} {fr : Nat × Nat} (enc : α → Value) (d : Array α) (hb : w.heap[g]? = some (.cells cur e fr)) :
  (grow (putRow enc (Sort.ahead w n) g 0 d) os).heap[g]? = some (.cells (putCells enc 0 d cur) e fr) := by
 have hg : g < w.heap.size := (Array.getElem?_eq_some_iff.1 hb).1
 rw [heap_grow_old _ _ (by simpa using hg)]
 simp [putRow, mapBlock, Sort.ahead, Array.getElem?_modify, hb, onCells]

theorem mod_put {w : World} {g n : Nat} {os : Array Obj} (enc : α → Value) (d : Array α) : Mod [some g] w.heap (grow (putRow enc (Sort.ahead w n) g 0 d) os).heap := by
 refine ⟨by simp [grow], fun k hk hne => ?_⟩
 rw [heap_grow_old _ _ (by simpa using hk)]
 have : g ≠ k := fun e => hne (by simp [e])
 simp [putRow, mapBlock, Sort.ahead, Array.getElem?_modify, this]

theorem same_put {w : World} {g n : Nat} {os : Array Obj} (enc : α → Value) (d : Array α) : Same w (grow (putRow enc (Sort.ahead w n) g 0 d) os) := ⟨rfl, rfl, rfl⟩

theorem take_put (enc : α → Value) (cur : Array Value) (ts : List α) (m : Nat) (hm : m ≤ ts.length) (h : ts.length ≤ cur.size) : (putCells enc 0 ts.toArray cur).toList.take m = (ts.take m).map enc := by
 apply List.ext_getElem?
 intro j
 by_cases hj : j < m
 ·rw [List.getElem?_take_of_lt hj, Array.getElem?_toList]
  simp [putCells, show j < ts.length by omega, show j < cur.size by omega, hj]
 ·rw [List.getElem?_take_eq_none (by omega), List.getElem?_eq_none (by simp; omega)]
end

theorem relI {l : List Int} {xs : List Value} (h : RelL (kI .i64) l xs) : xs = l.map (Value.int .i64) := by
 induction l generalizing xs with
 | nil => exact h
 | cons x l ih =>
  obtain ⟨us, r, e, h1, h2⟩ := h
  have h1' : us = [.int .i64 x] := h1
  rw [e, h1', ih h2]; rfl
theorem relI_mk : ∀ l : List Int, RelL (kI .i64) l (l.map (Value.int .i64))
 | [] => rfl
 | x :: l => ⟨[.int .i64 x], l.map (Value.int .i64), rfl, rfl, relI_mk l⟩

/-- a row that the call owns, opened -/
theorem own_open {E : TypeId} {h : Heap} {v : Value} {l : List Int} (H : Own (kI .i64) E 0 h v l) : (v = .slice none 0 0 ∧ l = []) ∨ ∃ g cap cur, v = .slice (some ⟨g, 0, none⟩) l.length cap ∧ h[g]? = some (.cells cur E (0, 0)) ∧ l.length ≤ cap ∧ cap ≤ maxLen ∧ cur.size = cap ∧ cur.toList.take l.length = l.map (Value.int .i64) := by
 obtain ⟨xs, ⟨h1, h2⟩, hr⟩ := H
 have hx := relI hr
 rcases h2 with ⟨rfl, hn⟩ | ⟨g, cap, cur, rfl, _, hg, c1, c2, c3, c4⟩
 ·exact .inl ⟨rfl, List.eq_nil_of_length_eq_zero hn⟩
 ·refine .inr ⟨g, cap, cur, rfl, hg, c1, c2, ?_, ?_⟩
  ·rw [c3]; exact Nat.mul_one cap
  ·rw [← hx, ← c4]
   have : l.length * (kI .i64).size = l.length := Nat.mul_one _
   rw [this]
theorem own_close {E : TypeId} {h : Heap} {l : List Int} {g cap : Nat} {cur : Array Value} (hg : h[g]? = some (.cells cur E (0, 0))) (c1 : l.length ≤ cap) (c2 : cap ≤ maxLen) (c3 : cur.size = cap) (c4 : cur.toList.take l.length = l.map (Value.int .i64)) : Own (kI .i64) E 0 h (.slice (some ⟨g, 0, none⟩) l.length cap) l := by
 refine ⟨l.map (Value.int .i64), ⟨?_, .inr ⟨g, cap, cur, rfl, Nat.zero_le _, hg, c1, c2, ?_, ?_⟩⟩, relI_mk l⟩
 ·rw [List.length_map]; exact (Nat.mul_one _).symm
 ·rw [c3]; exact (Nat.mul_one _).symm
 ·rw [← c4]
  have : l.length * (kI .i64).size = l.length := Nat.mul_one _
  rw [this]

/-! ### the sort -/

noncomputable def slices_Sort_I (a0 : List Int) : Option (List Int) := if a0.length ≤ 1000000000 then some (a0.mergeSort fun x y => decide (x ≤ y)) else none

theorem slices_Sort_I_ok (h0 : Heap) (lo : Nat) (hlo : lo ≤ h0.size) (u0 : Value) (a0 : List (Int)) (S0 : Sep [u0.ownBlock] h0.size h0 [ownO (kI .i64) 2 u0 a0]) (hB : ∀ b, some b ∈ [u0.ownBlock] → lo ≤ b) (r : List (Int)) (hp : slices_Sort_I a0 = some r) : CallsH Tryz.prog 43 ([u0].toArray ++ [].toArray) h0 (fun v h' => v = (.tuple (List.toArray (α := Value) [])) ∧ Mod [u0.ownBlock] h0 h' ∧ Sep [u0.ownBlock] h0.size h' [ownO (kI .i64) 2 u0 r]) := by
 unfold slices_Sort_I at hp
 split at hp
 case isFalse => cases hp
 rename_i hlen
 cases hp
 have H : Own (kI .i64) 2 0 h0 u0 a0 := S0.holds _ (List.mem_singleton.2 rfl)
 intro w hw
 subst hw
 rcases own_open H with ⟨rfl, rfl⟩ | ⟨g, cap, cur, rfl, hg, c1, c2, c3, c4⟩
 ·have := Tryz.slices_Sort_int_none none 0 w
  refine this.mono ?_
  rintro e w' ⟨rfl, rfl⟩
  exact ⟨_, rfl, Same.refl _, rfl, Mod.refl _ _, by rw [List.mergeSort_nil]; exact S0⟩
 ·have hlt : g < w.heap.size := (Array.getElem?_eq_some_iff.1 hg).1
  have hH : Holds (Value.int .i64) w g 0 a0.toArray := holds_of_blockI hg c4
  have := Tryz.slices_Sort_int g 0 cap a0 w hH hlt (by omega)
  refine this.mono ?_
  rintro e w' ⟨rfl, n, os, rfl⟩
  have hl : (a0.mergeSort fun x y => decide (x ≤ y)).length = a0.length := List.length_mergeSort _
  refine ⟨_, rfl, same_put _ _, rfl, mod_put _ _, Sep.one ?_ ?_⟩
  ·have h2 := heap_put (n := n) (os := os) (Value.int .i64) (a0.mergeSort fun x y => decide (x ≤ y)).toArray hg
   have := own_close (l := a0.mergeSort fun x y => decide (x ≤ y)) h2 (by omega) c2 (by simp [putCells, c3]) (by
    rw [take_put _ _ _ _ (Nat.le_refl _) (by omega), List.take_length])
   rw [hl] at this
   exact this
  ·intro b hb
   have hb' : b = g := by cases hb; rfl
   subst hb'
   exact ⟨Nat.lt_of_lt_of_le hlt (mod_put (os := os) (n := n) (g := b) (Value.int .i64) (a0.mergeSort fun x y => decide (x ≤ y)).toArray).size, .inr (by simp [Value.ownBlock])⟩

/-! ### the compaction -/

noncomputable def slices_Compact_I (a0 : List Int) : Option (List Int) := if a0.length ≤ 1000000000 then some (Lib.compact a0) else none

theorem compact_len (l : List Int) : (Lib.compact l).length ≤ l.length := by
 unfold Lib.compact Lib.compactUpTo
 rw [List.length_map]
 have := List.length_filter_le (Lib.keeps l.toArray) (List.range l.length)
 simpa using this

theorem slices_Compact_I_ok (h0 : Heap) (lo : Nat) (hlo : lo ≤ h0.size) (u0 : Value) (a0 : List (Int)) (S0 : Sep [u0.ownBlock] h0.size h0 [ownO (kI .i64) 2 u0 a0]) (hB : ∀ b, some b ∈ [u0.ownBlock] → lo ≤ b) (r : List (Int)) (hp : slices_Compact_I a0 = some r) : CallsH Tryz.prog 44 ([u0].toArray ++ [].toArray) h0 (fun v h' => Mod [u0.ownBlock] h0 h' ∧ Sep [u0.ownBlock] h0.size h' [ownO (kI .i64) 2 v r]) := by
 unfold slices_Compact_I at hp
 split at hp
 case isFalse => cases hp
 rename_i hlen
 cases hp
 have H : Own (kI .i64) 2 0 h0 u0 a0 := S0.holds _ (List.mem_singleton.2 rfl)
 intro w hw
 subst hw
 rcases own_open H with ⟨rfl, rfl⟩ | ⟨g, cap, cur, rfl, hg, c1, c2, c3, c4⟩
 ·have := Tryz.slices_Compact_int_empty none 0 w
  refine this.mono ?_
  rintro e w' ⟨rfl, rfl⟩
  exact ⟨_, rfl, Same.refl _, Mod.refl _ _, S0⟩
 ·have hlt : g < w.heap.size := (Array.getElem?_eq_some_iff.1 hg).1
  have hH : Holds (Value.int .i64) w g 0 a0.toArray := holds_of_blockI hg c4
  have := Tryz.slices_Compact_int g 0 cap a0 w hH (by omega) c1
  refine this.mono ?_
  rintro e w' ⟨rfl, n, rfl⟩
  have hcl := compact_len a0
  have hgrow : ∀ W : World, grow W #[] = W := fun W => by simp [grow]
  have hl : (Lib.compact a0 ++ List.replicate (a0.length - (Lib.compact a0).length) 0).length = a0.length := by simp; omega
  generalize hts : Lib.compact a0 ++ List.replicate (a0.length - (Lib.compact a0).length) 0 = ts at *
  have hmod := mod_put (w := w) (n := n) (os := #[]) (g := g) (Value.int .i64) ts.toArray
  have h2 := heap_put (n := n) (os := #[]) (Value.int .i64) ts.toArray hg
  have hsame := same_put (w := w) (n := n) (os := #[]) (g := g) (Value.int .i64) ts.toArray
  rw [hgrow] at hmod h2 hsame
  refine ⟨_, rfl, hsame, hmod, Sep.one ?_ ?_⟩
  ·refine own_close (l := Lib.compact a0) h2 (by omega) c2 (by simp [putCells, c3]) ?_
   rw [take_put _ _ _ _ (by omega) (by omega), ← hts, List.take_left']
   rfl
  ·intro b hb
   have hb' : b = g := by cases hb; rfl
   subst hb'
   exact ⟨Nat.lt_of_lt_of_le hlt hmod.size, .inr (by simp [Value.ownBlock])⟩
end Go.H
