/- The strips of workers: the plain law. -/
import Derived.Test.YtohfgnjmgipehaaGStripsOf
set_option linter.unusedVariables false
namespace Go.H
open Go Ieee

/-- how many rows a worker has -/
def rowsOf (h w : Int) (k : Nat) : Int := if decide ((k : Int) < Int.tmod h w) = true then IntKind.wrap .i64 (IntKind.wrap .i64 (Int.tdiv h w) + 1) else IntKind.wrap .i64 (Int.tdiv h w)

theorem strips_some (h w : Int) (h1 : 1 ≤ w) (h2 : w ≤ 8) : ∃ l, l.length ≤ 8 ∧ spec_l07Strips h w = some l := by
  obtain ⟨n, rfl⟩ := Int.eq_ofNat_of_zero_le (show 0 ≤ w by omega)
  unfold spec_l07Strips
  have A := loop_fold (step := fun (s : ((List ((Int × Int))) × Int × Int)) => spec_l07Strips.s0 h n s.1 s.2.1 s.2.2) (fun (s : List (Int × Int) × Int) k => (s.1, s.2, (k : Int)))
    (fun k s => (if decide (rowsOf h n k > 0) = true then s.1 ++ [(s.2, rowsOf h n k)] else s.1, IntKind.wrap .i64 (s.2 + rowsOf h n k))) (fun k s => s.1.length ≤ k) n (fun s => (s.2, (n : Int), false, s.1)) ([], 0) (by simp) (fun k s hk hI => by
      obtain ⟨l, t⟩ := s
      simp only at hI
      constructor
      · show spec_l07Strips.s0 h n l t (k : Int) = _
        unfold spec_l07Strips.s0
        rw [if_pos (by simp; omega), if_neg (by omega), if_neg (by omega), ite_some, some_bind']
        have hr : (if decide ((k : Int) < Int.tmod h n) = true then IntKind.wrap .i64 (IntKind.wrap .i64 (Int.tdiv h n) + 1) else IntKind.wrap .i64 (Int.tdiv h n)) = rowsOf h n k := rfl
        rw [hr]
        rw [if_pos (show l.length + [(t, rowsOf h n k)].length ≤ 1000000000 by simp; omega), ite_some, some_bind', one_more (by omega)]
      · simp only
        split
        · simp; omega
        · omega) (fun s hI => by
      obtain ⟨l, t⟩ := s
      show spec_l07Strips.s0 h n l t (n : Int) = _
      unfold spec_l07Strips.s0
      rw [if_neg (by simp)]
      simp)
  obtain ⟨A1, A2⟩ := A
  simp only [Int.ofNat_zero] at A1
  rw [A1]
  exact ⟨_, by omega, rfl⟩

theorem strips_eq (a0 a1 : Int) (a2 : Bool) (a3 a4 : List (Option Nat)) (p : Int) (h3 : a3.length ≤ 1000000000) (h4 : a4.length ≤ 1000000000) : ∃ r, r.1.length ≤ 8 ∧ spec_StripsOf a0 a1 a2 a3 a4 p = some r ∧ impl_StripsOf a0 a1 a2 a3 a4 p = some r := by
  unfold spec_StripsOf impl_StripsOf impl_areWorkers spec_l00In impl_within
  obtain ⟨v, e1, e2⟩ := is_eq a0 a1 a2 a3 a4 h3 h4
  rw [e1, e2]
  simp only [ite_andB, some_bind', ite_orB]
  generalize hc : (!v || !(decide (p ≥ 1) && decide (p ≤ 8))) = c
  cases c with
  | true => exact ⟨([], false), by simp, rfl, rfl⟩
  | false =>
    simp only [Bool.or_eq_false_iff, Bool.not_eq_false', Bool.and_eq_true, decide_eq_true_eq] at hc
    obtain ⟨l, hl, h1⟩ := strips_some a1 p hc.2.1 hc.2.2
    have h2 : impl_stripsOf a0 a1 a2 a3 a4 p = some l := h1
    rw [h1, h2]
    exact ⟨(l, true), hl, rfl, rfl⟩

theorem eqStripS_self (a : List (Int × Int)) (h : a.length ≤ 1000000000) : laws_eqStripS a a = some true := by
  unfold laws_eqStripS
  rw [if_neg (by simp)]
  obtain ⟨st, _⟩ := loop_fold (step := fun (s : (Bool × Int)) => laws_eqStripS.s0 a a s.1 s.2) (fun (s : Unit) k => (false, (k : Int))) (fun _ s => s) (fun _ _ => True) a.length (fun _ => .inl (false, (a.length : Int), false)) () trivial (fun k s hk _ => by
    refine ⟨?_, trivial⟩
    show laws_eqStripS.s0 a a false (k : Int) = _
    unfold laws_eqStripS.s0 laws_eqStrip
    rw [if_pos (by simp; omega), idx_nat, List.getElem?_eq_getElem hk]
    simp only [some_bind', bne_self_eq_false, Bool.false_eq_true, if_false, Bool.not_true]
    rw [one_more (by omega)]) (fun s _ => by
    show laws_eqStripS.s0 a a false (a.length : Int) = _
    unfold laws_eqStripS.s0
    rw [if_neg (by simp)]
    simp)
  simp only [Int.ofNat_zero] at st
  rw [st]
  rfl

def marks2 (n : Int) (k : Nat) : List (Int × Int) := (List.range k).map fun (i : Nat) => (n + 2 * (i : Int), n + 2 * (i : Int) + 1)
theorem marks2_len (n : Int) (k : Nat) : (marks2 n k).length = k := by simp [marks2]

theorem markS_eq (a : List (Int × Int)) (h : a.length ≤ 1000) : laws_markStripS a 1 = some (1 + 2 * (a.length : Int), marks2 1 a.length) := by
  unfold laws_markStripS
  have A := loop_fold (step := fun (s : (Int × Int × (List ((Int × Int))))) => laws_markStripS.s0 s.1 s.2.1 s.2.2) (fun (s : List (Int × Int)) k => (1 + 2 * (k : Int), (k : Int), s)) (fun k s => s.set k (1 + 2 * (k : Int), 1 + 2 * (k : Int) + 1)) (fun k s => s = marks2 1 k ++ a.drop k) a.length (fun s => (1 + 2 * (a.length : Int), (a.length : Int), false, s)) a (by simp [marks2]) (fun k s hk hI => by
    have hsl : s.length = a.length := by rw [hI, List.length_append, marks2_len, List.length_drop]; omega
    have hks : k < s.length := by omega
    constructor
    · show laws_markStripS.s0 (1 + 2 * (k : Int)) (k : Int) s = _
      unfold laws_markStripS.s0
      rw [if_pos (by simp; omega), idx_nat, List.getElem?_eq_getElem hks, some_bind', some_bind', setF_nat hks, some_bind', idx_nat]
      have hks2 : k < (s.set k (1 + 2 * (k : Int), s[k].2)).length := by simpa using hks
      rw [List.getElem?_eq_getElem hks2, some_bind', some_bind', setF_nat hks2, some_bind', wrap_small (n := 1 + 2 * (k : Int) + 1) (by omega) (by omega), wrap_small (n := 1 + 2 * (k : Int) + 1 + 1) (by omega) (by omega), one_more (by omega)]
      simp only [List.getElem_set_self, List.set_set]
      congr 3
    · rw [hI, List.set_append_right _ _ (by rw [marks2_len]; omega), marks2_len, Nat.sub_self, List.drop_eq_getElem_cons hk, List.set_cons_zero]
      unfold marks2
      rw [List.range_succ, List.map_append, List.append_assoc]
      rfl) (fun s hI => by
    have hsl : s.length = a.length := by rw [hI, List.length_append, marks2_len, List.length_drop]; omega
    show laws_markStripS.s0 (1 + 2 * (a.length : Int)) (a.length : Int) s = _
    unfold laws_markStripS.s0
    rw [if_neg (by simp [hsl])]
    simp [hsl])
  obtain ⟨A1, A2⟩ := A
  simp only [Int.ofNat_zero, Int.mul_zero, Int.add_zero] at A1
  rw [A1, A2]
  simp

theorem heldS_eq (k : Nat) (h : k ≤ 1000) : laws_heldStripS (marks2 1 k) 1 = some (1 + 2 * (k : Int)) := by
  unfold laws_heldStripS
  have A := loop_fold (step := fun (s : (Int × Int × Int)) => laws_heldStripS.s0 (marks2 1 k) s.1 s.2.1 s.2.2) (fun (s : Unit) i => (1 + 2 * (i : Int), (0 : Int), (i : Int))) (fun _ s => s) (fun _ _ => True) k (fun _ => .inl (1 + 2 * (k : Int), (0 : Int), (k : Int), false)) () trivial (fun i s hi _ => by
    refine ⟨?_, trivial⟩
    show laws_heldStripS.s0 (marks2 1 k) (1 + 2 * (i : Int)) 0 (i : Int) = _
    unfold laws_heldStripS.s0
    have hg : (marks2 1 k)[i]? = some (1 + 2 * (i : Int), 1 + 2 * (i : Int) + 1) := by simp [marks2, hi]
    rw [if_pos (by rw [marks2_len]; simp; omega), idx_nat, hg]
    simp only [some_bind', bne_self_eq_false, Bool.false_eq_true, if_false]
    rw [wrap_small (n := 1 + 2 * (i : Int) + 1) (by omega) (by omega), wrap_small (n := 1 + 2 * (i : Int) + 1 + 1) (by omega) (by omega), one_more (by omega)]
    simp only [bne_self_eq_false, Bool.false_eq_true, if_false]
    congr 3) (fun s _ => by
    show laws_heldStripS.s0 (marks2 1 k) (1 + 2 * (k : Int)) 0 (k : Int) = _
    unfold laws_heldStripS.s0
    rw [if_neg (by rw [marks2_len]; simp), marks2_len]
    simp)
  obtain ⟨A1, _⟩ := A
  simp only [Int.ofNat_zero, Int.mul_zero, Int.add_zero] at A1
  rw [A1]
  rfl

theorem laws_FnExactStripsOf_true (a0 a1 : Int) (a2 : Bool) (a3 a4 : List (Option Nat)) (p : Int) (h3 : a3.length ≤ 9223372036854775807) (h4 : a4.length ≤ 9223372036854775807) : laws_FnExactStripsOf a0 a1 a2 a3 a4 p = some true := by
  unfold laws_FnExactStripsOf
  rcases szSheet_cases a0 a1 a2 a3 a4 1048576 (by omega) (by omega) h3 h4 with h | ⟨h, hl⟩
  · rw [h]; rfl
  · rw [h, some_bind', if_neg (by simp; omega)]
    obtain ⟨⟨l, r⟩, hlen, e1, e2⟩ := strips_eq a0 a1 a2 a3 a4 p (by omega) (by omega)
    simp only at hlen
    simp only [toSheet_eq a0 a1 a2 a3 a4 (by omega) (by omega), e1, e2, some_bind', eqStripS_self l (by omega), eqSheet_self a0 a1 a2 a3 a4 (by omega) (by omega), bne_self_eq_false, Bool.not_true, Bool.false_eq_true, if_false, markSheet_eq a0 a1 a2 a3 a4 1 (by omega) (by omega), markS_eq l (by omega), heldS_eq l.length (by omega), not_neg (show 0 ≤ 1 + (a3.length : Int) + (a4.length : Int) by omega), not_neg (show 0 ≤ 1 + 2 * (l.length : Int) by omega)]
end Go.H
