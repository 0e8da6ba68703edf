/- Messages: the plain law. -/
import Derived.Test.YtmgoblppedmdhaaPMsgC
import Derived.Test.YtmgoblppedmdhaaPGridI
set_option linter.unusedVariables false
namespace Go.H
open Go Ieee

theorem msgS_three {n : Nat} {H : Nat → List Int} {inS : Nat → Int → Bool} : ∀ x ∈ msgS n H inS, x.length = 3 := by
  intro x hx
  obtain ⟨a, b, r, _, _, _, _, rfl⟩ := mem_msgS.1 hx
  rfl
theorem msgI_three {n : Nat} {H : Nat → List Int} {inS : Nat → Int → Bool} : ∀ x ∈ msgI n H inS, x.length = 3 := by
  intro x hx
  obtain ⟨a, b, r, _, _, _, _, rfl⟩ := mem_msgI.1 hx
  rfl

theorem msg_eq (a0 a1 : Int) (a2 : Bool) (a3 a4 : List (Option Nat)) (p : Int) (h3 : a3.length ≤ 1000000000) (h4 : a4.length ≤ 1000000000) : ∃ r : List (List Int) × Bool, r.1.length ≤ 2000 ∧ (∀ x ∈ r.1, x.length = 3) ∧ spec_MessagesOf a0 a1 a2 a3 a4 p = some r ∧ impl_MessagesOf a0 a1 a2 a3 a4 p = some r := by
  obtain ⟨c, e1, e2, e3⟩ := strips_msg a0 a1 a2 a3 a4 p h3 h4
  unfold spec_MessagesOf impl_MessagesOf
  rw [e1, some_bind']
  cases c with
  | true =>
    rw [e2 rfl, some_bind']
    exact ⟨([], false), by simp, by simp, rfl, rfl⟩
  | false =>
    obtain ⟨l, hl, f1, f2, f3, p1, p2⟩ := e3 rfl
    obtain ⟨w, h, rfl, rfl, w1, w2, k1, k2, l3, l4⟩ := valid_has f3
    obtain ⟨n, rfl⟩ := Int.eq_ofNat_of_zero_le (show 0 ≤ p by omega)
    have hs := strips_is (h : Int) n (by omega) (by omega)
    have el : l = stripsL (h : Int) n := by
      have : some l = some (stripsL (h : Int) n) := f1.symm.trans hs
      exact Option.some.inj this
    have hgood := strips_good h (by omega) n (by omega)
    rw [← el, Bool.and_eq_true, List.all_eq_true] at hgood
    have hg := hgood.1
    rw [f1, f2]
    simp only [some_bind', Bool.false_eq_true, if_false, Bool.not_true]
    obtain ⟨i1, i2⟩ := impl_all w h a2 a3 a4 l true (by omega) (by omega) hl hg
    rw [spec_all w h a2 a3 a4 l (by omega) (by omega) hl hg, i1]
    simp only [some_bind']
    have hH : ∀ b, (halB h a2 l b).Pairwise (· < ·) := fun b => halB_rise h a2 l b
    have hms : (msgI l.length (halB h a2 l) (inA l)).mergeSort lexLe = msgS l.length (halB h a2 l) (inA l) := msg_sort hH
    have hlen : (msgS l.length (halB h a2 l) (inA l)).length = (msgI l.length (halB h a2 l) (inA l)).length := (msg_perm hH).length_eq.symm
    have hso : slices_SortFunc_LL (msgI l.length (halB h a2 l) (inA l)) = some (msgS l.length (halB h a2 l) (inA l)) := by
      unfold slices_SortFunc_LL
      rw [if_pos ⟨by omega, msgI_nodup hH, fun x hx => by rw [msgI_three x hx]; omega⟩, hms]
    rw [hso]
    exact ⟨(msgS l.length (halB h a2 l) (inA l), true), by simp only; omega, msgS_three, rfl, rfl⟩

theorem eqInt64SS_self (a : List (List Int)) (h : a.length ≤ 1000000000) (h2 : ∀ x ∈ a, x.length ≤ 1000000000) : laws_eqInt64SS a a = some true := by
  unfold laws_eqInt64SS
  rw [if_neg (by simp)]
  obtain ⟨st, _⟩ := loop_fold (step := fun (s : (Bool × Int)) => laws_eqInt64SS.s0 a a s.1 s.2) (fun (s : Unit) k => (false, (k : Int))) (fun _ s => s) (fun _ _ => True) a.length (fun _ => .inl (false, (a.length : Int), false)) () trivial (fun k s hk _ => by
    refine ⟨?_, trivial⟩
    show laws_eqInt64SS.s0 a a false (k : Int) = _
    unfold laws_eqInt64SS.s0
    rw [if_pos (by simp; omega), idx_nat, List.getElem?_eq_getElem hk]
    simp only [some_bind', eqInt64S_self _ (h2 _ (List.getElem_mem hk)), Bool.false_eq_true, if_false, Bool.not_true]
    rw [one_more (by omega)]) (fun s _ => by
    show laws_eqInt64SS.s0 a a false (a.length : Int) = _
    unfold laws_eqInt64SS.s0
    rw [if_neg (by simp)]
    simp)
  simp only [Int.ofNat_zero] at st
  rw [st]
  rfl

def marks3 (n : Int) (k : Nat) : List (List Int) := (List.range k).map fun (i : Nat) => marks (fun i => i) (n + 3 * (i : Int)) 3
theorem marks3_len (n : Int) (k : Nat) : (marks3 n k).length = k := by simp [marks3]

theorem markSS_eq (a : List (List Int)) (h : a.length ≤ 10000) (h3 : ∀ x ∈ a, x.length = 3) : laws_markInt64SS a 1 = some (1 + 3 * (a.length : Int), marks3 1 a.length) := by
  unfold laws_markInt64SS
  have A := loop_fold (step := fun (s : (Int × Int × (List (List (Int))))) => laws_markInt64SS.s0 s.1 s.2.1 s.2.2) (fun (s : List (List Int)) k => (1 + 3 * (k : Int), (k : Int), s)) (fun k s => s.set k (marks (fun i => i) (1 + 3 * (k : Int)) 3)) (fun k s => s = marks3 1 k ++ a.drop k) a.length (fun s => (1 + 3 * (a.length : Int), (a.length : Int), false, s)) a (by simp [marks3]) (fun k s hk hI => by
    have hsl : s.length = a.length := by rw [hI, List.length_append, marks3_len, List.length_drop]; omega
    have hks : k < s.length := by omega
    have hsk : s[k]? = some a[k] := by
      rw [hI, List.getElem?_append_right (by rw [marks3_len]; omega), marks3_len, Nat.sub_self, List.getElem?_drop, Nat.add_zero, List.getElem?_eq_getElem hk]
    have h3k := h3 a[k] (List.getElem_mem hk)
    constructor
    · show laws_markInt64SS.s0 (1 + 3 * (k : Int)) (k : Int) s = _
      unfold laws_markInt64SS.s0
      rw [if_pos (by simp; omega), idx_nat, hsk, some_bind', markI_eq a[k] (1 + 3 * (k : Int)) (by omega) (by omega), some_bind', one_more (by omega), h3k, Int.toNat_natCast]
      have e : 1 + 3 * (k : Int) + ((3 : Nat) : Int) = 1 + 3 * ((k + 1 : Nat) : Int) := by omega
      simp only [e]
    · rw [hI, List.set_append_right _ _ (by rw [marks3_len]; omega), marks3_len, Nat.sub_self, List.drop_eq_getElem_cons hk, List.set_cons_zero]
      unfold marks3
      rw [List.range_succ, List.map_append, List.append_assoc]
      rfl) (fun s hI => by
    have hsl : s.length = a.length := by rw [hI, List.length_append, marks3_len, List.length_drop]; omega
    show laws_markInt64SS.s0 (1 + 3 * (a.length : Int)) (a.length : Int) s = _
    unfold laws_markInt64SS.s0
    rw [if_neg (by simp [hsl])]
    simp [hsl])
  obtain ⟨A1, A2⟩ := A
  simp only [Int.ofNat_zero, Int.mul_zero, Int.add_zero] at A1
  rw [A1, A2]
  simp

theorem heldSS_eq (k : Nat) (h : k ≤ 10000) : laws_heldInt64SS (marks3 1 k) 1 = some (1 + 3 * (k : Int)) := by
  unfold laws_heldInt64SS
  have A := loop_fold (step := fun (s : (Int × Int × Int)) => laws_heldInt64SS.s0 (marks3 1 k) s.1 s.2.1 s.2.2) (fun (s : Unit) i => (1 + 3 * (i : Int), (0 : Int), (i : Int))) (fun _ s => s) (fun _ _ => True) k (fun _ => .inl (1 + 3 * (k : Int), (0 : Int), (k : Int), false)) () trivial (fun i s hi _ => by
    refine ⟨?_, trivial⟩
    show laws_heldInt64SS.s0 (marks3 1 k) (1 + 3 * (i : Int)) 0 (i : Int) = _
    unfold laws_heldInt64SS.s0
    have hg : (marks3 1 k)[i]? = some (marks (fun i => i) (1 + 3 * (i : Int)) 3) := by simp [marks3, hi]
    have e : 1 + 3 * (i : Int) + ((3 : Nat) : Int) = 1 + 3 * ((i + 1 : Nat) : Int) := by omega
    rw [if_pos (by rw [marks3_len]; simp; omega), idx_nat, hg, some_bind', heldI_eq _ 3 (by omega) (by omega), some_bind', if_neg (by simp; omega), one_more (by omega), e]) (fun s _ => by
    show laws_heldInt64SS.s0 (marks3 1 k) (1 + 3 * (k : Int)) 0 (k : Int) = _
    unfold laws_heldInt64SS.s0
    rw [if_neg (by rw [marks3_len]; simp), marks3_len]
    simp)
  obtain ⟨A1, _⟩ := A
  simp only [Int.ofNat_zero, Int.mul_zero, Int.add_zero] at A1
  rw [A1]
  rfl

theorem laws_FnExactMessagesOf_true (a0 a1 : Int) (a2 : Bool) (a3 a4 : List (Option Nat)) (p : Int) (h3 : a3.length ≤ 9223372036854775807) (h4 : a4.length ≤ 9223372036854775807) : laws_FnExactMessagesOf a0 a1 a2 a3 a4 p = some true := by
  unfold laws_FnExactMessagesOf
  rcases szSheet_cases a0 a1 a2 a3 a4 1048576 (by omega) (by omega) h3 h4 with h | ⟨h, hl⟩
  · rw [h]; rfl
  · rw [h, some_bind', if_neg (by simp; omega)]
    obtain ⟨⟨l, r⟩, hlen, h3l, e1, e2⟩ := msg_eq a0 a1 a2 a3 a4 p (by omega) (by omega)
    simp only at hlen h3l
    have hE := eqInt64SS_self l (by omega) (fun x hx => by rw [h3l x hx]; omega)
    simp only [toSheet_eq a0 a1 a2 a3 a4 (by omega) (by omega), e1, e2, some_bind', hE, eqSheet_self a0 a1 a2 a3 a4 (by omega) (by omega), bne_self_eq_false, Bool.not_true, Bool.false_eq_true, if_false, markSheet_eq a0 a1 a2 a3 a4 1 (by omega) (by omega), markSS_eq l (by omega) h3l, heldSS_eq l.length (by omega), not_neg (show 0 ≤ 1 + (a3.length : Int) + (a4.length : Int) by omega), not_neg (show 0 ≤ 1 + 3 * (l.length : Int) by omega)]
end Go.H
