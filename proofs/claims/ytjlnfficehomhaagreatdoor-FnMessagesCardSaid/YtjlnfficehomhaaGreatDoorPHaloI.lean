/- The rows that a strip needs: both texts. -/
import Derived.Test.YtjlnfficehomhaaGreatDoorGHalo
import Derived.Test.YtjlnfficehomhaaGreatDoorPFold
import Derived.Test.YtjlnfficehomhaaGreatDoorPCells
import Derived.Test.YtjlnfficehomhaaGreatDoorPRise
set_option linter.unusedVariables false
namespace Go.H
open Go Ieee

/-- the rows about a strip, one after another, those outside brought inside or left out -/
def rowsL (h : Int) (wrap : Bool) (y : Int) : List Int := if 0 ≤ y ∧ y ≤ h - 1 then [y] else if wrap = true then [Int.tmod (y + h) h] else []
def haloL (h : Int) (wrap : Bool) (fr : Int) : Nat → List Int
  | 0 => []
  | k + 1 => haloL h wrap fr k ++ rowsL h wrap (fr - 1 + k)

theorem haloL_len (h : Int) (wrap : Bool) (fr : Int) : ∀ n, (haloL h wrap fr n).length ≤ n
  | 0 => by simp [haloL]
  | n + 1 => by
    have := haloL_len h wrap fr n
    have h2 : (rowsL h wrap (fr - 1 + n)).length ≤ 1 := by unfold rowsL; split <;> (try split) <;> simp
    simp only [haloL, List.length_append]
    omega

theorem insAll_len (l : List Int) : ∀ s : List Int, (insAll s l).length ≤ s.length + l.length := by
  induction l with
  | nil => intro s; simp [insAll]
  | cons x l ih =>
    intro s
    have := ih (ins s x)
    have h2 := ins_len x s
    unfold insAll at this ⊢
    rw [List.foldl_cons, List.length_cons]
    omega

theorem insAll_append (s a b : List Int) : insAll s (a ++ b) = insAll (insAll s a) b := List.foldl_append

section
variable {w h : Nat} (b : Bool) (l m : List (Option Nat)) (fr ct : Nat) (hh1 : 1 ≤ h) (hh : h ≤ 16) (hf : fr < h) (hc1 : 1 ≤ ct) (hc : ct ≤ h - fr)
include hh1 hh hf hc1 hc

theorem impl_halo : impl_haloRows w h b l m fr ct = some (insAll [] (haloL h b fr (ct + 2))) := by
  have e1 : IntKind.wrap .i64 ((fr : Int) + (ct : Int)) = (fr : Int) + ct := wrap_small (by omega) (by omega)
  have e2 : IntKind.wrap .i64 ((h : Int) - 1) = (h : Int) - 1 := wrap_small (by omega) (by omega)
  have e3 : IntKind.wrap .i64 ((fr : Int) - 1) = (fr : Int) - 1 + ((0 : Nat) : Int) := by rw [wrap_small (by omega) (by omega)]; omega
  have A := loopF_upto (step := fun (s : ((List (Int)) × Int)) => impl_haloRows.s0 h b fr ct s.1 s.2) (fun k => (haloL h b fr k, (fr : Int) - 1 + (k : Int))) (ct + 2) (fun k hk => by
    show impl_haloRows.s0 h b fr ct (haloL h b fr k) ((fr : Int) - 1 + (k : Int)) = _
    have hl := haloL_len h b fr k
    have e4 : IntKind.wrap .i64 ((fr : Int) - 1 + (k : Int) + 1) = (fr : Int) - 1 + ((k + 1 : Nat) : Int) := by rw [wrap_small (by omega) (by omega)]; omega
    have e5 : IntKind.wrap .i64 ((fr : Int) - 1 + (k : Int) + (h : Int)) = (fr : Int) - 1 + (k : Int) + (h : Int) := wrap_small (by omega) (by omega)
    unfold impl_haloRows.s0
    rw [e1, e2, if_pos (decide_eq_true (by omega)), (in_eq _ _ _).2, some_bind', e4, e5]
    simp only [haloL, rowsL]
    by_cases hy : 0 ≤ (fr : Int) - 1 + (k : Int) ∧ (fr : Int) - 1 + (k : Int) ≤ (h : Int) - 1
    · have hy' : (decide ((fr : Int) - 1 + (k : Int) ≥ 0) && decide ((fr : Int) - 1 + (k : Int) ≤ (h : Int) - 1)) = true := by simp; omega
      rw [hy', if_pos rfl, if_pos hy, if_pos (by simp; omega), some_bind']
    · have hy' : (decide ((fr : Int) - 1 + (k : Int) ≥ 0) && decide ((fr : Int) - 1 + (k : Int) ≤ (h : Int) - 1)) = false := by
        rw [Bool.and_eq_false_iff]; simp only [decide_eq_false_iff_not]; omega
      rw [hy', if_neg (by simp), if_neg hy]
      cases b with
      | true =>
        simp only [if_true]
        rw [if_neg (by omega), if_pos (by simp; omega), some_bind', some_bind']
      | false =>
        simp only [Bool.false_eq_true, if_false, List.append_nil, some_bind'])
  have hs : loopF (fun (s : ((List (Int)) × Int)) => impl_haloRows.s0 h b fr ct s.1 s.2) (haloL h b fr (ct + 2), (fr : Int) - 1 + ((ct + 2 : Nat) : Int)) = some ((fr : Int) - 1 + ((ct + 2 : Nat) : Int), false, haloL h b fr (ct + 2)) := by
    apply loopF_stop
    show impl_haloRows.s0 h b fr ct (haloL h b fr (ct + 2)) ((fr : Int) - 1 + ((ct + 2 : Nat) : Int)) = _
    unfold impl_haloRows.s0
    have hd : decide ((fr : Int) - 1 + ((ct + 2 : Nat) : Int) ≤ (fr : Int) + (ct : Int)) = false := by simp; omega
    rw [e1, hd, if_neg (by simp)]
  have hl := haloL_len h b fr (ct + 2)
  unfold impl_haloRows
  rw [e3]
  have A' : loopF (fun (s : ((List (Int)) × Int)) => impl_haloRows.s0 h b fr ct s.1 s.2) (([] : List (Int)), (fr : Int) - 1 + ((0 : Nat) : Int)) = _ := A
  rw [A', hs, some_bind']
  simp only
  unfold slices_Sort_I slices_Compact_I
  rw [if_pos (by omega), some_bind', if_pos (by rw [List.length_mergeSort]; omega), some_bind', compact_sort]
end
end Go.H
