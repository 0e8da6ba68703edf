/- Marks: what is written into a row, and that it is found again. -/
import Derived.Test.YtjlnfficehomhaaDoorPCopy
set_option linter.unusedVariables false
namespace Go.H
open Go Ieee

/-- the marks that are written into a row -/
def marks {α : Type} (g : Int → α) (n : Int) (k : Nat) : List α := (List.range k).map fun (i : Nat) => g (n + (i : Int))
theorem marks_len {α : Type} (g : Int → α) (n : Int) (k : Nat) : (marks g n k).length = k := by simp [marks]
theorem marks_get {α : Type} (g : Int → α) (n : Int) {k i : Nat} (h : i < k) : (marks g n k)[i]? = some (g (n + (i : Int))) := by simp [marks, h]

theorem mark_loop {α : Type} {step : Int × Int × List α → Option ((Int × Int × List α) ⊕ (Int × Int × Bool × List α))} (g : Int → α)
    (hs : ∀ x i l, step (x, i, l) = if decide (i < (l.length : Int)) = true then (idx l i).bind fun _ => (setF l i (g x)).bind fun l' => some (.inl (IntKind.wrap .i64 (x + 1), IntKind.wrap .i64 (i + 1), l')) else some (.inr (x, i, decide (i < (l.length : Int)), l)))
    (a : List α) (n : Int) (h0 : 0 ≤ n) (h1 : n + a.length ≤ 1000000000000) : loopF step (n, 0, a) = some (n + a.length, (a.length : Int), false, marks g n a.length) := by
  have st := loopF_upto (step := step) (fun k => (n + (k : Int), (k : Int), marks g n k ++ a.drop k)) a.length (fun k hk => by
    rw [hs]
    have hl : (marks g n k ++ a.drop k).length = a.length := by rw [List.length_append, marks_len, List.length_drop]; omega
    rw [if_pos (by rw [hl]; simp; omega), idx_nat, List.getElem?_eq_getElem (show k < (marks g n k ++ a.drop k).length by omega), Option.bind_some, setF_nat (by omega), Option.bind_some, wrap_small (by omega) (by omega), wrap_small (by omega) (by omega)]
    have e : (marks g n k ++ a.drop k).set k (g (n + (k : Int))) = marks g n (k + 1) ++ a.drop (k + 1) := by
      rw [List.set_append_right _ _ (by rw [marks_len]; omega), marks_len, Nat.sub_self]
      have : a.drop k = a[k] :: a.drop (k + 1) := List.drop_eq_getElem_cons hk
      rw [this, List.set_cons_zero]
      unfold marks
      rw [List.range_succ, List.map_append, List.append_assoc]
      rfl
    rw [e]
    have e2 : n + (k : Int) + 1 = n + ((k + 1 : Nat) : Int) := by omega
    have e3 : (k : Int) + 1 = ((k + 1 : Nat) : Int) := by omega
    rw [e2, e3])
  have e0 : ((0 : Nat) : Int) = 0 := rfl
  simp only [e0, Int.add_zero, List.drop_zero, List.drop_length, List.append_nil] at st
  have em : marks g n 0 = [] := rfl
  rw [em, List.nil_append] at st
  rw [st]
  apply loopF_stop
  rw [hs, if_neg (by rw [marks_len]; simp), marks_len]
  simp

theorem held_loop {α : Type} {a : List α} {step : Int × Int × Int → Option ((Int × Int × Int) ⊕ ((Int × Int × Int × Bool) ⊕ Int))} (g : Int → α) (bad : α → Int → Bool)
    (hs : ∀ x c i, step (x, c, i) = if decide (i < (a.length : Int)) = true then (idx a i).bind fun y => if bad y x = true then some (.inr (.inr (-1))) else some (.inl (IntKind.wrap .i64 (x + 1), c, IntKind.wrap .i64 (i + 1))) else some (.inr (.inl (x, c, i, decide (i < (a.length : Int))))))
    (n : Int) (k : Nat) (ha : a = marks g n k) (hb : ∀ x, bad (g x) x = false) (h0 : 0 ≤ n) (h1 : n + k ≤ 1000000000000) : loopF step (n, 0, 0) = some (.inl (n + k, 0, (k : Int), false)) := by
  have hl : a.length = k := by rw [ha, marks_len]
  have st := loopF_upto (step := step) (fun k => (n + (k : Int), (0 : Int), (k : Int))) k (fun i hi => by
    rw [hs, if_pos (by rw [hl]; simp; omega), idx_nat, ha, marks_get g n hi, Option.bind_some, if_neg (by rw [hb]; simp), wrap_small (by omega) (by omega), wrap_small (by omega) (by omega)]
    have e2 : n + (i : Int) + 1 = n + ((i + 1 : Nat) : Int) := by omega
    have e3 : (i : Int) + 1 = ((i + 1 : Nat) : Int) := by omega
    rw [e2, e3])
  have e0 : ((0 : Nat) : Int) = 0 := rfl
  simp only [e0, Int.add_zero] at st
  rw [st]
  apply loopF_stop
  rw [hs, if_neg (by rw [hl]; simp), hl]
  simp

theorem read_nearest_nan (s : Bool) (m : Nat) (p : Int) : (single.read (single.nearest s m p)).isNaN = false := by
  have key : ∀ r, r ≤ single.infRung → (single.read (single.word s r)).isNaN = false := by
    intro r hr
    rcases rung_datum single s hr with ⟨_, h⟩ | ⟨_, _, m', _, _, h⟩ | ⟨_, _, h⟩ | ⟨h1, h2⟩
    · rw [h]; rfl
    · rw [h]; rfl
    · rw [h]; rfl
    · have : single.binade ≤ single.infRung := by decide
      omega
  by_cases hm : m = 0
  · subst hm
    have : single.nearest s 0 p = single.word s 0 := by unfold Format.nearest; rw [if_pos rfl]
    rw [this]; exact key 0 (Nat.zero_le _)
  · obtain ⟨last, kept, h, _⟩ := nearest_rung single s hm p
    rw [h]
    exact key _ (Nat.min_le_right ..)
theorem fofi_self (x : Int) : fcmp .eql .f32 (fofi .f32 x) (fofi .f32 x) = true := eql_self (k := .f32) (read_nearest_nan _ _ _)

theorem markF_eq (a : List (Option Nat)) (n : Int) (h0 : 0 ≤ n) (h1 : n + a.length ≤ 1000000000000) : laws_markFloat32S a n = some (n + a.length, marks (fun i => fofi .f32 i) n a.length) := by
  unfold laws_markFloat32S
  rw [mark_loop (fun i => fofi .f32 i) (fun _ _ _ => rfl) a n h0 h1]
  rfl
theorem markI_eq (a : List Int) (n : Int) (h0 : 0 ≤ n) (h1 : n + a.length ≤ 1000000000000) : laws_markInt64S a n = some (n + a.length, marks (fun i => i) n a.length) := by
  unfold laws_markInt64S
  rw [mark_loop (fun i => i) (fun _ _ _ => rfl) a n h0 h1]
  rfl
theorem heldI_eq (n : Int) (k : Nat) (h0 : 0 ≤ n) (h1 : n + k ≤ 1000000000000) : laws_heldInt64S (marks (fun i => i) n k) n = some (n + k) := by
  unfold laws_heldInt64S
  rw [held_loop (a := marks (fun i => i) n k) (fun i => i) (fun y x => y != x) (fun _ _ _ => rfl) n k rfl (fun x => by simp) h0 h1]
  rfl
end Go.H
