/- Messages: the reference's loops. -/
import Derived.Test.YtmgoblppedmdhaaPMsgStr
import Derived.Test.YtmgoblppedmdhaaPMsgF
import Derived.Test.YtmgoblppedmdhaaPCells
import Derived.Test.YtmgoblppedmdhaaPHaloI
set_option linter.unusedVariables false
namespace Go.H
open Go Ieee

/-- a strip has a row -/
def inP (p : Int × Int) (r : Int) : Bool := decide (r ≥ p.1) && decide (r ≤ IntKind.wrap .i64 (IntKind.wrap .i64 (p.1 + p.2) - 1))

theorem spec_rows (x4 : List (Int × Int)) (a b : Nat) (R : List Int) (p : Int × Int) (hp : x4[a]? = some p) (hR : R.length ≤ 1000) (s : List (List Int)) (hs : s.length ≤ 1000000) :
    loopF (fun (s : ((List (List (Int))) × Int)) => spec_MessagesOf.s2 x4 (a : Int) (b : Int) R s.1 s.2) (s, 0) = some ((R.length : Int), false, s ++ (R.filter fun r => ((a : Int) != (b : Int)) && inP p r).map fun r => [(a : Int), (b : Int), r]) := by
  have A := loop_fold (step := fun (s : ((List (List (Int))) × Int)) => spec_MessagesOf.s2 x4 (a : Int) (b : Int) R s.1 s.2) (fun t k => (t, (k : Int))) (fun k t => t ++ ((R[k]?.map fun r => if (((a : Int) != (b : Int)) && inP p r) = true then [[(a : Int), (b : Int), r]] else []).getD [])) (fun k t => t.length ≤ s.length + k) R.length (fun t => ((R.length : Int), false, t)) s (by simp) (fun k t hk hI => by
    have hr : R[k]? = some R[k] := List.getElem?_eq_getElem hk
    rw [hr, Option.map_some, Option.getD_some]
    refine ⟨?_, ?_⟩
    · show spec_MessagesOf.s2 x4 (a : Int) (b : Int) R t (k : Int) = _
      unfold spec_MessagesOf.s2
      rw [if_pos (decide_eq_true (Int.ofNat_lt.2 hk))]
      simp only [idx_nat, hr, hp, some_bind', (in_eq _ _ _).1, one_more (show k ≤ 1000000000 by omega)]
      have e : (decide (R[k] ≥ p.1) && decide (R[k] ≤ IntKind.wrap .i64 (IntKind.wrap .i64 (p.1 + p.2) - 1))) = inP p R[k] := rfl
      rw [e]
      cases h1 : ((a : Int) != (b : Int)) with
      | false => simp
      | true =>
        cases h2 : inP p R[k] with
        | false => simp
        | true =>
          have hl : t.length + [[(a : Int), (b : Int), R[k]]].length ≤ 1000000000 := by simp; omega
          simp only [if_true, some_bind', Bool.and_self, if_pos hl]
    · skip
      rw [List.length_append]
      split <;> simp <;> omega) (fun t hI => by
    show spec_MessagesOf.s2 x4 (a : Int) (b : Int) R t (R.length : Int) = _
    unfold spec_MessagesOf.s2
    rw [if_neg (by simp)]
    simp)
  have A1 := A.1
  simp only [Int.ofNat_zero] at A1
  rw [fold_cat, flat_range, flat_filter] at A1
  exact A1
end Go.H
