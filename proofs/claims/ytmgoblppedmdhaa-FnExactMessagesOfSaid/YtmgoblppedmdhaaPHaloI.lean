/- The rows that a strip needs: both texts. -/
import Derived.Test.YtmgoblppedmdhaaGHalo
import Derived.Test.YtmgoblppedmdhaaPFold
import Derived.Test.YtmgoblppedmdhaaPCells
import Derived.Test.YtmgoblppedmdhaaPRise
set_option linter.unusedVariables false
namespace Go.H
open Go Ieee

/-- the rows about a strip, one after another, those outside brought inside or left out -/
def rowsL (h : Int) (wrap : Bool) (y : Int) : List Int := if 0 ≤ y ∧ y ≤ h - 1 then [y] else if wrap = true then [Int.tmod (y + h) h] else []
def haloL (h : Int) (wrap : Bool) (fr : Int) : Nat → List Int
  | 0 => []
  | k + 1 => haloL h wrap fr k ++ rowsL h wrap (fr - 1 + k)

theorem haloL_len (h : Int) (wrap : Bool) (fr : Int) : ∀ n, (haloL h wrap fr n).length ≤ n
  | 0 => by simp [haloL]
  | n + 1 => by
    have := haloL_len h wrap fr n
    have h2 : (rowsL h wrap (fr - 1 + n)).length ≤ 1 := by unfold rowsL; split <;> (try split) <;> simp
    simp only [haloL, List.length_append]
    omega

theorem insAll_len (l : List Int) : ∀ s : List Int, (insAll s l).length ≤ s.length + l.length := by
  induction l with
  | nil => intro s; simp [insAll]
  | cons x l ih =>
    intro s
    have := ih (ins s x)
    have h2 := ins_len x s
    unfold insAll at this ⊢
    rw [List.foldl_cons, List.length_cons]
    omega

theorem insAll_append (s a b : List Int) : insAll s (a ++ b) = insAll (insAll s a) b := List.foldl_append

/-- what stands behind the place where a number is put -/
theorem put_eq (l : List Int) (n : Int) (hl : l.length ≤ 1000) : spec_l00Put l n = some (ins l n) := by
  -- what has been written when k numbers have been looked at, and whether the number stands among them
  let out := fun k : Nat => if ((l.take k).any fun x => decide (x ≥ n)) = true then ins (l.take k) n else l.take k
  let done := fun k : Nat => (l.take k).any fun x => decide (x ≥ n)
  have insA : ∀ (a : List Int) (x : Int), (a.any fun x => decide (x ≥ n)) = true → ins (a ++ [x]) n = ins a n ++ [x] := by
    intro a
    induction a with
    | nil => intro x h; simp at h
    | cons y a ih =>
      intro x h
      rw [List.cons_append]
      unfold ins
      split
      · split <;> rfl
      · rename_i hy
        have hy' : decide (y ≥ n) = false := decide_eq_false hy
        rw [List.any_cons, hy', Bool.false_or] at h
        rw [ih x h]; rfl
  have insB : ∀ (a : List Int) (x : Int), (a.any fun x => decide (x ≥ n)) = false → ins (a ++ [x]) n = if x ≥ n then (if x > n then a ++ [n] ++ [x] else a ++ [x]) else a ++ [x] ++ [n] := by
    intro a
    induction a with
    | nil => intro x _; simp only [List.nil_append, ins]; split <;> (try split) <;> rfl
    | cons y a ih =>
      intro x h
      rw [List.any_cons, Bool.or_eq_false_iff] at h
      have hy : ¬ y ≥ n := of_decide_eq_false h.1
      rw [List.cons_append]
      show (if y ≥ n then _ else y :: ins (a ++ [x]) n) = _
      rw [if_neg hy, ih x h.2]
      split <;> (try split) <;> rfl
  have insC : ∀ a : List Int, (a.any fun x => decide (x ≥ n)) = false → ins a n = a ++ [n] := by
    intro a
    induction a with
    | nil => intro _; rfl
    | cons y a ih =>
      intro h
      rw [List.any_cons, Bool.or_eq_false_iff] at h
      have hy : ¬ y ≥ n := of_decide_eq_false h.1
      show (if y ≥ n then _ else y :: ins a n) = _
      rw [if_neg hy, ih h.2]; rfl
  have outlen : ∀ k, (out k).length ≤ k + 1 := by
    intro k
    simp only [out]
    have h1 := ins_len n (l.take k)
    have h2 : (l.take k).length ≤ k := by simp; omega
    split <;> omega
  have A := loopF_upto (step := fun (s : ((List (Int)) × Bool × Int)) => spec_l00Put.s0 l n s.1 s.2.1 s.2.2) (fun k => (out k, done k, (k : Int))) l.length (fun k hk => by
    show spec_l00Put.s0 l n (out k) (done k) (k : Int) = _
    have hol := outlen k
    unfold spec_l00Put.s0
    rw [if_pos (by simp; omega), idx_nat, List.getElem?_eq_getElem hk]
    simp only [some_bind', one_more (show k ≤ 1000000000 by omega), ite_some]
    have htk : l.take (k + 1) = l.take k ++ [l[k]] := List.take_succ_eq_append_getElem hk
    have hd1 : done (k + 1) = (done k || decide (l[k] ≥ n)) := by
      simp only [done]
      rw [htk, List.any_append]; simp
    have ho1 : out (k + 1) = if done k = true then out k ++ [l[k]] else if l[k] ≥ n then (if l[k] > n then out k ++ [n] ++ [l[k]] else out k ++ [l[k]]) else out k ++ [l[k]] := by
      simp only [out]
      have e : ((l.take (k + 1)).any fun x => decide (x ≥ n)) = (done k || decide (l[k] ≥ n)) := hd1
      rw [e, htk]
      cases hd : done k with
      | true =>
        have hd' : ((l.take k).any fun x => decide (x ≥ n)) = true := hd
        rw [Bool.true_or, if_pos rfl, if_pos rfl, if_pos hd', insA _ _ hd']
      | false =>
        have hd' : ((l.take k).any fun x => decide (x ≥ n)) = false := hd
        rw [Bool.false_or, if_neg (show ¬ ((l.take k).any fun x => decide (x ≥ n)) = true by rw [hd']; simp), if_neg (show ¬ (false = true) by simp)]
        by_cases hx : l[k] ≥ n
        · rw [decide_eq_true hx, if_pos rfl, if_pos hx, insB _ _ hd', if_pos hx]
        · rw [decide_eq_false hx, if_neg (by simp), if_neg hx]
    rw [hd1, ho1]
    cases hd : done k with
    | true =>
      simp only [Bool.not_true, Bool.false_eq_true, if_false, some_bind', Bool.true_or, if_true]
      rw [if_pos (by simp; omega)]
    | false =>
      simp only [Bool.not_false, if_true, Bool.false_or, Bool.false_eq_true, if_false]
      by_cases hx : l[k] ≥ n
      · rw [if_pos (show decide (l[k] ≥ n) = true from decide_eq_true hx), if_pos hx, decide_eq_true hx]
        by_cases hx2 : l[k] > n
        · rw [if_pos (show decide (l[k] > n) = true from decide_eq_true hx2), if_pos hx2, if_pos (by simp; omega)]
          simp only [some_bind']
          rw [if_pos (by simp; omega)]
        · rw [if_neg (show ¬ decide (l[k] > n) = true by simp; omega), if_neg hx2]
          simp only [some_bind']
          rw [if_pos (by simp; omega)]
      · rw [if_neg (show ¬ decide (l[k] ≥ n) = true by simp; omega), if_neg hx, decide_eq_false hx]
        simp only [some_bind']
        rw [if_pos (by simp; omega)])
  have hs : loopF (fun (s : ((List (Int)) × Bool × Int)) => spec_l00Put.s0 l n s.1 s.2.1 s.2.2) (out l.length, done l.length, (l.length : Int)) = some (done l.length, (l.length : Int), false, out l.length) := by
    apply loopF_stop
    show spec_l00Put.s0 l n (out l.length) (done l.length) (l.length : Int) = _
    unfold spec_l00Put.s0
    rw [if_neg (by simp)]
    simp
  have hol := outlen l.length
  have A' : loopF (fun (s : ((List (Int)) × Bool × Int)) => spec_l00Put.s0 l n s.1 s.2.1 s.2.2) (([] : List (Int)), false, 0) = some (done l.length, (l.length : Int), false, out l.length) := by
    rw [← hs, ← A]
    simp [out, done]
  unfold spec_l00Put
  rw [A', some_bind']
  simp only
  cases hd : done l.length with
  | true =>
    have ho : out l.length = ins l n := by
      have hd' : ((l.take l.length).any fun x => decide (x ≥ n)) = true := hd
      simp only [out]
      rw [if_pos hd', List.take_length]
    rw [ho]; rfl
  | false =>
    have hd' : ((l.take l.length).any fun x => decide (x ≥ n)) = false := hd
    have ho : out l.length = l := by
      simp only [out]
      rw [hd', if_neg (by simp), List.take_length]
    rw [List.take_length] at hd'
    rw [ho, insC l hd']
    simp only [Bool.not_false, if_true]
    rw [if_pos (by simp; omega)]; rfl

section
variable {w h : Nat} (b : Bool) (l m : List (Option Nat)) (fr ct : Nat) (hh1 : 1 ≤ h) (hh : h ≤ 16) (hf : fr < h) (hc1 : 1 ≤ ct) (hc : ct ≤ h - fr)
include hh1 hh hf hc1 hc

theorem impl_halo : impl_haloRows w h b l m fr ct = some (insAll [] (haloL h b fr (ct + 2))) := by
  have e1 : IntKind.wrap .i64 ((fr : Int) + (ct : Int)) = (fr : Int) + ct := wrap_small (by omega) (by omega)
  have e2 : IntKind.wrap .i64 ((h : Int) - 1) = (h : Int) - 1 := wrap_small (by omega) (by omega)
  have e3 : IntKind.wrap .i64 ((fr : Int) - 1) = (fr : Int) - 1 + ((0 : Nat) : Int) := by rw [wrap_small (by omega) (by omega)]; omega
  have A := loopF_upto (step := fun (s : ((List (Int)) × Int)) => impl_haloRows.s0 h b fr ct s.1 s.2) (fun k => (haloL h b fr k, (fr : Int) - 1 + (k : Int))) (ct + 2) (fun k hk => by
    show impl_haloRows.s0 h b fr ct (haloL h b fr k) ((fr : Int) - 1 + (k : Int)) = _
    have hl := haloL_len h b fr k
    have e4 : IntKind.wrap .i64 ((fr : Int) - 1 + (k : Int) + 1) = (fr : Int) - 1 + ((k + 1 : Nat) : Int) := by rw [wrap_small (by omega) (by omega)]; omega
    have e5 : IntKind.wrap .i64 ((fr : Int) - 1 + (k : Int) + (h : Int)) = (fr : Int) - 1 + (k : Int) + (h : Int) := wrap_small (by omega) (by omega)
    unfold impl_haloRows.s0
    rw [e1, e2, if_pos (decide_eq_true (by omega)), (in_eq _ _ _).2, some_bind', e4, e5]
    simp only [haloL, rowsL]
    by_cases hy : 0 ≤ (fr : Int) - 1 + (k : Int) ∧ (fr : Int) - 1 + (k : Int) ≤ (h : Int) - 1
    · have hy' : (decide ((fr : Int) - 1 + (k : Int) ≥ 0) && decide ((fr : Int) - 1 + (k : Int) ≤ (h : Int) - 1)) = true := by simp; omega
      rw [hy', if_pos rfl, if_pos hy, if_pos (by simp; omega), some_bind']
    · have hy' : (decide ((fr : Int) - 1 + (k : Int) ≥ 0) && decide ((fr : Int) - 1 + (k : Int) ≤ (h : Int) - 1)) = false := by
        rw [Bool.and_eq_false_iff]; simp only [decide_eq_false_iff_not]; omega
      rw [hy', if_neg (by simp), if_neg hy]
      cases b with
      | true =>
        simp only [if_true]
        rw [if_neg (by omega), if_pos (by simp; omega), some_bind', some_bind']
      | false =>
        simp only [Bool.false_eq_true, if_false, List.append_nil, some_bind'])
  have hs : loopF (fun (s : ((List (Int)) × Int)) => impl_haloRows.s0 h b fr ct s.1 s.2) (haloL h b fr (ct + 2), (fr : Int) - 1 + ((ct + 2 : Nat) : Int)) = some ((fr : Int) - 1 + ((ct + 2 : Nat) : Int), false, haloL h b fr (ct + 2)) := by
    apply loopF_stop
    show impl_haloRows.s0 h b fr ct (haloL h b fr (ct + 2)) ((fr : Int) - 1 + ((ct + 2 : Nat) : Int)) = _
    unfold impl_haloRows.s0
    have hd : decide ((fr : Int) - 1 + ((ct + 2 : Nat) : Int) ≤ (fr : Int) + (ct : Int)) = false := by simp; omega
    rw [e1, hd, if_neg (by simp)]
  have hl := haloL_len h b fr (ct + 2)
  unfold impl_haloRows
  rw [e3]
  have A' : loopF (fun (s : ((List (Int)) × Int)) => impl_haloRows.s0 h b fr ct s.1 s.2) (([] : List (Int)), (fr : Int) - 1 + ((0 : Nat) : Int)) = _ := A
  rw [A', hs, some_bind']
  simp only
  unfold slices_Sort_I slices_Compact_I
  rw [if_pos (by omega), some_bind', if_pos (by rw [List.length_mergeSort]; omega), some_bind', compact_sort]

theorem spec_halo : spec_l07Halo w h b l m fr ct = some (insAll [] (haloL h b fr (ct + 2))) := by
  have e1 : IntKind.wrap .i64 ((fr : Int) + (ct : Int)) = (fr : Int) + ct := wrap_small (by omega) (by omega)
  have e2 : IntKind.wrap .i64 ((h : Int) - 1) = (h : Int) - 1 := wrap_small (by omega) (by omega)
  have e3 : IntKind.wrap .i64 ((fr : Int) - 1) = (fr : Int) - 1 + ((0 : Nat) : Int) := by rw [wrap_small (by omega) (by omega)]; omega
  have A := loopF_upto (step := fun (s : ((List (Int)) × Int)) => spec_l07Halo.s0 h b fr ct s.1 s.2) (fun k => (insAll [] (haloL h b fr k), (fr : Int) - 1 + (k : Int))) (ct + 2) (fun k hk => by
    show spec_l07Halo.s0 h b fr ct (insAll [] (haloL h b fr k)) ((fr : Int) - 1 + (k : Int)) = _
    have hl := haloL_len h b fr k
    have hl2 := insAll_len (haloL h b fr k) []
    have hl3 : (insAll [] (haloL h b fr k)).length ≤ 1000 := by simp at hl2; omega
    have e4 : IntKind.wrap .i64 ((fr : Int) - 1 + (k : Int) + 1) = (fr : Int) - 1 + ((k + 1 : Nat) : Int) := by rw [wrap_small (by omega) (by omega)]; omega
    have e5 : IntKind.wrap .i64 ((fr : Int) - 1 + (k : Int) + (h : Int)) = (fr : Int) - 1 + (k : Int) + (h : Int) := wrap_small (by omega) (by omega)
    unfold spec_l07Halo.s0
    rw [e1, e2, if_pos (decide_eq_true (by omega)), (in_eq _ _ _).1, e4, e5]
    simp only [haloL, insAll_append, some_bind', put_eq _ _ hl3]
    have key : insAll (insAll [] (haloL h b fr k)) (rowsL h b ((fr : Int) - 1 + (k : Int))) = if b = true then ins (insAll [] (haloL h b fr k)) (Int.tmod ((fr : Int) - 1 + (k : Int) + (h : Int)) (h : Int)) else if (decide ((fr : Int) - 1 + (k : Int) ≥ 0) && decide ((fr : Int) - 1 + (k : Int) ≤ (h : Int) - 1)) = true then ins (insAll [] (haloL h b fr k)) ((fr : Int) - 1 + (k : Int)) else insAll [] (haloL h b fr k) := by
      unfold rowsL
      by_cases hy : 0 ≤ (fr : Int) - 1 + (k : Int) ∧ (fr : Int) - 1 + (k : Int) ≤ (h : Int) - 1
      · have hy' : (decide ((fr : Int) - 1 + (k : Int) ≥ 0) && decide ((fr : Int) - 1 + (k : Int) ≤ (h : Int) - 1)) = true := by simp; omega
        rw [if_pos hy, hy', if_pos rfl]
        have hmod : Int.tmod ((fr : Int) - 1 + (k : Int) + (h : Int)) (h : Int) = (fr : Int) - 1 + (k : Int) := by
          rw [Int.tmod_eq_emod_of_nonneg (by omega), Int.add_emod_right, Int.emod_eq_of_lt hy.1 (by omega)]
        rw [hmod]
        cases b <;> rfl
      · have hy' : (decide ((fr : Int) - 1 + (k : Int) ≥ 0) && decide ((fr : Int) - 1 + (k : Int) ≤ (h : Int) - 1)) = false := by
          rw [Bool.and_eq_false_iff]; simp only [decide_eq_false_iff_not]; omega
        rw [if_neg hy, hy']
        cases b <;> rfl
    rw [key]
    cases b with
    | true => simp only [if_true]; rw [if_neg (by omega), some_bind']
    | false => simp only [Bool.false_eq_true, if_false, ite_some, some_bind'])
  have hs : loopF (fun (s : ((List (Int)) × Int)) => spec_l07Halo.s0 h b fr ct s.1 s.2) (insAll [] (haloL h b fr (ct + 2)), (fr : Int) - 1 + ((ct + 2 : Nat) : Int)) = some ((fr : Int) - 1 + ((ct + 2 : Nat) : Int), false, insAll [] (haloL h b fr (ct + 2))) := by
    apply loopF_stop
    show spec_l07Halo.s0 h b fr ct (insAll [] (haloL h b fr (ct + 2))) ((fr : Int) - 1 + ((ct + 2 : Nat) : Int)) = _
    unfold spec_l07Halo.s0
    have hd : decide ((fr : Int) - 1 + ((ct + 2 : Nat) : Int) ≤ (fr : Int) + (ct : Int)) = false := by simp; omega
    rw [e1, hd, if_neg (by simp)]
  unfold spec_l07Halo
  rw [e3]
  have A' : loopF (fun (s : ((List (Int)) × Int)) => spec_l07Halo.s0 h b fr ct s.1 s.2) (([] : List (Int)), (fr : Int) - 1 + ((0 : Nat) : Int)) = _ := A
  rw [A', hs, some_bind']
end
end Go.H
