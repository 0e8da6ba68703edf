/- Lists of integers by their first difference. -/
import Derived.Test.YtjlnfficehomhaaGreatDoorGCmp
import Derived.Test.YtjlnfficehomhaaGreatDoorPNum
set_option linter.unusedVariables false
namespace Go.H
open Go Go.HD

/-- less, equal, greater: by the first difference, the shorter one first -/
def lexC : List Int → List Int → Int
  | [], [] => 0
  | [], _ :: _ => -1
  | _ :: _, [] => 1
  | x :: l, y :: m => if x < y then -1 else if y < x then 1 else lexC l m

theorem cmp_eq (x y : Int) : cmp_Compare_int64 x y = some (if x < y then -1 else if y < x then 1 else 0) := by
  unfold cmp_Compare_int64 cmp_isNaN_int64
  by_cases h1 : x < y
  · simp [h1]
  · by_cases h2 : y < x
    · simp [h1, h2]
    · simp [h1, h2]

theorem lex_drop (a b : List Int) (k : Nat) (ha : k < a.length) (hb : k < b.length) : lexC (a.drop k) (b.drop k) = if a[k] < b[k] then -1 else if b[k] < a[k] then 1 else lexC (a.drop (k + 1)) (b.drop (k + 1)) := by
  rw [List.drop_eq_getElem_cons ha, List.drop_eq_getElem_cons hb, lexC]

theorem compare_loop (a b : List Int) (hl : a.length ≤ 1000000000) : ∀ n k : Nat, a.length = k + n → ∃ y, loopF (fun (s : (Int × Int)) => slices_Compare_int64_int64.s0 a b s.1 s.2) (0, (k : Int)) = some y ∧ (match y with | .inl (x3, x4, x5) => (if (decide ((a.length : Int) < (b.length : Int))) = true then some (-1) else some 0) | .inr r1 => some r1) = some (lexC (a.drop k) (b.drop k))
  | 0, k, h => by
    refine ⟨.inl (0, (k : Int), false), loopF_stop ?_, ?_⟩
    · show slices_Compare_int64_int64.s0 a b 0 (k : Int) = _
      unfold slices_Compare_int64_int64.s0
      have : decide ((k : Int) < (a.length : Int)) = false := decide_eq_false (by omega)
      rw [this]; rfl
    · have e : a.drop k = [] := List.drop_eq_nil_of_le (by omega)
      rw [e]
      by_cases hb : k < b.length
      · rw [List.drop_eq_getElem_cons hb]
        have : decide ((a.length : Int) < (b.length : Int)) = true := decide_eq_true (by omega)
        simp only [this, if_true, lexC]
      · rw [List.drop_eq_nil_of_le (show b.length ≤ k by omega)]
        have : decide ((a.length : Int) < (b.length : Int)) = false := decide_eq_false (by omega)
        simp only [this, lexC, Bool.false_eq_true, if_false]
  | n + 1, k, h => by
    have ha : k < a.length := by omega
    have d1 : decide ((k : Int) < (a.length : Int)) = true := decide_eq_true (by omega)
    by_cases hb : k < b.length
    · have d2 : decide ((k : Int) ≥ (b.length : Int)) = false := decide_eq_false (by omega)
      have hs : slices_Compare_int64_int64.s0 a b 0 (k : Int) = if a[k] < b[k] then some (.inr (.inr (-1))) else if b[k] < a[k] then some (.inr (.inr 1)) else some (.inl (0, ((k + 1 : Nat) : Int))) := by
        unfold slices_Compare_int64_int64.s0
        rw [d1, if_pos rfl, idx_nat, idx_nat, List.getElem?_eq_getElem ha, List.getElem?_eq_getElem hb, d2]
        simp only [Option.bind_some, Bool.false_eq_true, if_false, cmp_eq]
        have hw : IntKind.wrap .i64 ((k : Int) + 1) = ((k + 1 : Nat) : Int) := by rw [wrap_small (by omega) (by omega)]; rfl
        by_cases h1 : a[k] < b[k]
        · simp [h1]
        · by_cases h2 : b[k] < a[k]
          · simp [h1, h2]
          · simp [h1, h2, hw]
      rw [lex_drop a b k ha hb]
      by_cases h1 : a[k] < b[k]
      · rw [if_pos h1] at hs ⊢
        exact ⟨_, loopF_stop hs, rfl⟩
      · rw [if_neg h1] at hs ⊢
        by_cases h2 : b[k] < a[k]
        · rw [if_pos h2] at hs ⊢
          exact ⟨_, loopF_stop hs, rfl⟩
        · rw [if_neg h2] at hs ⊢
          obtain ⟨y, y1, y2⟩ := compare_loop a b hl n (k + 1) (by omega)
          exact ⟨y, (loopF_next hs).trans y1, y2⟩
    · have d2 : decide ((k : Int) ≥ (b.length : Int)) = true := decide_eq_true (by omega)
      refine ⟨.inr 1, loopF_stop ?_, ?_⟩
      · show slices_Compare_int64_int64.s0 a b 0 (k : Int) = _
        unfold slices_Compare_int64_int64.s0
        rw [d1, if_pos rfl, idx_nat, List.getElem?_eq_getElem ha, d2]
        rfl
      · rw [List.drop_eq_getElem_cons ha, List.drop_eq_nil_of_le (show b.length ≤ k by omega), lexC]

theorem compare_eq (a b : List Int) (hl : a.length ≤ 1000000000) : slices_Compare_int64_int64 a b = some (lexC a b) := by
  obtain ⟨y, y1, y2⟩ := compare_loop a b hl a.length 0 (by omega)
  unfold slices_Compare_int64_int64
  have y1' : loopF (fun (s : (Int × Int)) => slices_Compare_int64_int64.s0 a b s.1 s.2) (0, 0) = some y := y1
  rw [List.drop_zero, List.drop_zero] at y2
  rw [y1']
  cases y with
  | inl e => exact y2
  | inr r => exact y2

theorem lexC_self : ∀ a : List Int, lexC a a = 0
  | [] => rfl
  | x :: l => by rw [lexC, if_neg (by omega), if_neg (by omega)]; exact lexC_self l
theorem lexC_eq : ∀ a b : List Int, lexC a b = 0 → a = b
  | [], [], _ => rfl
  | [], _ :: _, h => by simp [lexC] at h
  | _ :: _, [], h => by simp [lexC] at h
  | x :: l, y :: m, h => by
    rw [lexC] at h
    split at h
    · simp at h
    · split at h
      · simp at h
      · rw [lexC_eq l m h]; congr 1; omega
theorem lexC_val : ∀ a b : List Int, lexC a b = -1 ∨ lexC a b = 0 ∨ lexC a b = 1
  | [], [] => by simp [lexC]
  | [], _ :: _ => by simp [lexC]
  | _ :: _, [] => by simp [lexC]
  | x :: l, y :: m => by
    rw [lexC]
    split
    · simp
    · split
      · simp
      · exact lexC_val l m
theorem lexC_anti : ∀ a b : List Int, lexC b a = -lexC a b
  | [], [] => rfl
  | [], _ :: _ => rfl
  | _ :: _, [] => rfl
  | x :: l, y :: m => by
    rw [lexC, lexC]
    by_cases h1 : x < y
    · rw [if_neg (by omega), if_pos h1, if_pos h1]; rfl
    · by_cases h2 : y < x
      · rw [if_pos h2, if_neg h1, if_pos h2]
      · rw [if_neg h2, if_neg h1, if_neg h1, if_neg h2]; exact lexC_anti l m
theorem lexC_trans : ∀ a b c : List Int, lexC a b = -1 → lexC b c = -1 → lexC a c = -1
  | [], [], _, h, _ => by simp [lexC] at h
  | [], _ :: _, [], _, k => by simp [lexC] at k
  | [], _ :: _, _ :: _, _, _ => rfl
  | _ :: _, [], _, h, _ => by simp [lexC] at h
  | _ :: _, _ :: _, [], _, k => by simp [lexC] at k
  | x :: l, y :: m, z :: n, h, k => by
    rw [lexC] at h k ⊢
    by_cases h1 : x < y
    · by_cases k1 : y < z
      · rw [if_pos (by omega)]
      · rw [if_neg k1] at k
        by_cases k2 : z < y
        · rw [if_pos k2] at k; simp at k
        · rw [if_pos (by omega)]
    · rw [if_neg h1] at h
      by_cases h2 : y < x
      · rw [if_pos h2] at h; simp at h
      · rw [if_neg h2] at h
        by_cases k1 : y < z
        · rw [if_pos (by omega)]
        · rw [if_neg k1] at k
          by_cases k2 : z < y
          · rw [if_pos k2] at k; simp at k
          · rw [if_neg k2] at k
            rw [if_neg (by omega), if_neg (by omega)]
            exact lexC_trans l m n h k
end Go.H
