/- The head of a program: its words, one at a time. -/
import Derived.Test.YtohfgnjmgipehaaBase12
import Derived.JoinedOf
namespace Go.H
open Go

def sp : Char := Char.ofNat 32

theorem words_sp (r : List Char) : wordsSigns (sp :: r) = [] :: wordsSigns r := rfl

theorem words_ne (r : List Char) : wordsSigns r ≠ [] := by
  cases r with
  | nil => simp [wordsSigns]
  | cons c r =>
    unfold wordsSigns
    split
    · simp
    · simp
    · split <;> simp

theorem words_cons {c : Char} (h : c ≠ sp) (r w : List Char) (ws : List (List Char)) (hr : wordsSigns r = w :: ws) : wordsSigns (c :: r) = (c :: w) :: ws := by
  rw [wordsSigns]
  · rw [hr]
  · exact h

theorem words_word {a : List Char} (h : a.all (· != sp) = true) (r : List Char) : wordsSigns (a ++ sp :: r) = a :: wordsSigns r := by
  induction a with
  | nil => exact words_sp r
  | cons c a ih =>
    simp only [List.all_cons, Bool.and_eq_true, bne_iff_ne, ne_eq] at h
    exact words_cons h.1 _ _ _ (ih h.2)

theorem head_words {P : Program} {h s c : List Char} {r : List Char} (hio : P.initOrder = String.ofList (h ++ sp :: (s ++ sp :: (c ++ sp :: r)))) (ha : h.all (· != sp) = true) (hb : s.all (· != sp) = true) (hc : c.all (· != sp) = true)
    (hm : ((h == "harness".toList || h == "ownmain".toList) && isSumSigns s) = true) : ∃ W, behindMainWord (wordsSigns P.initOrder.toList) = c :: W := by
  rw [hio, String.toList_ofList, words_word ha, words_word hb, words_word hc]
  refine ⟨wordsSigns r, ?_⟩
  show (if ((h == "harness".toList || h == "ownmain".toList) && isSumSigns s) = true then _ else _) = _
  rw [if_pos hm]

def cutWord : List Char := [Char.ofNat 99, Char.ofNat 117, Char.ofNat 116]

theorem strip_cut (W : List (List Char)) : stripLifts liftWords (cutWord :: W) = ([], cutWord :: W) := by
  have key : ∀ l : List String, l.all (fun o => cutWord == o.toList) = false → l.all (fun o => !(cutWord == o.toList)) = true → stripLifts l (cutWord :: W) = ([], cutWord :: W) := by
    intro l _ h
    induction l with
    | nil => rfl
    | cons o l ih =>
      simp only [List.all_cons, Bool.and_eq_true, Bool.not_eq_true'] at h
      rw [stripLifts, if_neg (by rw [h.1]; decide)]
      by_cases hl : l.all (fun o => cutWord == o.toList) = false
      · exact ih hl h.2
      · cases l with
        | nil => rfl
        | cons o' l' => exact absurd (by simp only [List.all_cons, Bool.and_eq_true, Bool.not_eq_true'] at h; simp only [List.all_cons, h.2.1, Bool.false_and]) hl
  exact key liftWords (by decide +kernel) (by decide +kernel)

theorem may_enter {P : Program} (hw : ∃ W, behindMainWord (wordsSigns P.initOrder.toList) = cutWord :: W) (hl : P.laysLater = false) (hr : P.bearsReflect = false) (hd : P.doorFits [] = true) : P.mayEnter = true := by
  obtain ⟨W, hW⟩ := hw
  unfold Program.mayEnter
  rw [hW]
  dsimp only
  rw [strip_cut, hl, hr, hd]
  have h1 : (cutWord :: W).head? == some "cut".toList := by
    show (some cutWord == some "cut".toList) = true
    decide +kernel
  simp only [h1, Bool.not_false, Bool.or_true, Bool.and_true, List.contains_nil]

theorem head_lifts {P : Program} (hw : ∃ W, behindMainWord (wordsSigns P.initOrder.toList) = cutWord :: W) : P.headLifts = [] := by
  obtain ⟨W, hW⟩ := hw
  unfold Program.headLifts
  rw [hW, strip_cut]
  dsimp only
  split <;> rfl

theorem lifts_final {P : Program} (hw : ∃ W, behindMainWord (wordsSigns P.initOrder.toList) = cutWord :: W) : P.liftsFinal = false := by
  unfold Program.liftsFinal
  rw [head_lifts hw]
  obtain ⟨W, hW⟩ := hw
  rw [hW]
  have h1 : ((cutWord :: W).head? == some "carried".toList) = false := by
    show (some cutWord == some "carried".toList) = false
    decide +kernel
  dsimp only
  rw [h1]
  rfl

theorem make_cut {P : Program} (hw : ∃ W, behindMainWord (wordsSigns P.initOrder.toList) = cutWord :: W) : P.make = some .cut := by
  obtain ⟨W, hW⟩ := hw
  unfold Program.make
  rw [hW]
  dsimp only
  have h1 : (cutWord == "gc".toList || cutWord == "spec".toList) = false := by decide +kernel
  have h2 : (cutWord == "cut".toList) = true := by decide +kernel
  rw [h1, h2]
  rfl

theorem list1 {l : List Value} (h : l.length = 1) : ∃ x0, l = [x0] := by
  match l, h with
  | [x0], _ => exact ⟨x0, rfl⟩
theorem list2 {l : List Value} (h : l.length = 2) : ∃ x0 x1, l = [x0, x1] := by
  match l, h with
  | [x0, x1], _ => exact ⟨x0, x1, rfl⟩
theorem list3 {l : List Value} (h : l.length = 3) : ∃ x0 x1 x2, l = [x0, x1, x2] := by
  match l, h with
  | [x0, x1, x2], _ => exact ⟨x0, x1, x2, rfl⟩
theorem list4 {l : List Value} (h : l.length = 4) : ∃ x0 x1 x2 x3, l = [x0, x1, x2, x3] := by
  match l, h with
  | [x0, x1, x2, x3], _ => exact ⟨x0, x1, x2, x3, rfl⟩
theorem list5 {l : List Value} (h : l.length = 5) : ∃ x0 x1 x2 x3 x4, l = [x0, x1, x2, x3, x4] := by
  match l, h with
  | [x0, x1, x2, x3, x4], _ => exact ⟨x0, x1, x2, x3, x4, rfl⟩
theorem list6 {l : List Value} (h : l.length = 6) : ∃ x0 x1 x2 x3 x4 x5, l = [x0, x1, x2, x3, x4, x5] := by
  match l, h with
  | [x0, x1, x2, x3, x4, x5], _ => exact ⟨x0, x1, x2, x3, x4, x5, rfl⟩
end Go.H
