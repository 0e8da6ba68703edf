/- The library: frames told in part, a judgement on code over them, floats. -/
import Derived.Test.YtjlnfficehomhaaGreatDoorLibA
import Derived.WalkKit
import Derived.ProofKit
import Derived.OpenShut
import Derived.ShutString
import Derived.ChangeOld
import Derived.Below
import Derived.JoinedOf
/- Arguments as the statements read them: numbers, rows. -/
namespace Go.H
open Go Go.ChangeShapes Go.WideShapes Go.ChangeAt Go.RowKit

section
variable {H : Type} {enc : TypeId × Value → H} {P : Program} {w : World} {base : Nat} {spare : Nat → Bool} {held : Bool} {fuel : Nat} {t : TypeId} {cs : List Value} {x : DataW H × List MemPlace}

theorem trod_float {k : FloatKind} (ht : P.underlying t = some (.float k)) (h : DataW.trod enc P w base spare held fuel t cs = some x) : ∃ b, cs = [.float k b] ∧ (Lit.float k b).wf = true := by
  cases fuel with
  | zero => simp [DataW.trod] at h
  | succ n =>
    unfold DataW.trod at h
    rw [ht] at h
    split at h <;> simp_all

theorem isF_wf {k : FloatKind} {b : Nat} (h : (Lit.float k b).wf = true) : IsF k (.float k b) (cls k b) := by
  refine ⟨b, rfl, ?_, rfl⟩
  cases k
  · have : b < 2 ^ 32 := by simpa [Lit.wf] using h
    exact this
  · have : b < 2 ^ 64 := by simpa [Lit.wf] using h
    exact this

theorem okWide_float {k : FloatKind} {r : Reach} {b0 : Nat} {v : Value} (ht : P.underlying t = some (.float k)) (h : Value.okWide P w r b0 t v) : ∃ b, v = .float k b := by
  simp only [Value.okWide, ht, Cell.okWide] at h
  cases v <;> simp_all [Cell.ok]

theorem argF {k : FloatKind} {r : Reach} {b0 : Nat} {v : Value} {d : DataW H} {ps : List MemPlace} (ht : P.underlying t = some (.float k)) (hval : Value.okWide P w r b0 t v) (hd : DataW.Trod enc P w base spare held t v d ps) : ∃ a, IsF k v a := by
  obtain ⟨b, rfl⟩ := okWide_float ht hval
  obtain ⟨fuel, hf⟩ := hd
  obtain ⟨b', h, hw⟩ := trod_float ht hf
  simp [Value.cells] at h
  subst h
  exact ⟨_, isF_wf hw⟩

theorem argI {k : IntKind} {r : Reach} {b0 : Nat} {v : Value} {d : DataW H} {ps : List MemPlace} (ht : P.underlying t = some (.int k)) (hval : Value.okWide P w r b0 t v) (hd : DataW.Trod enc P w base spare held t v d ps) : ∃ a, v = .int k a ∧ k.min ≤ a ∧ a ≤ k.max := by
  obtain ⟨n, h1, _, _, h2⟩ := open_int ht hval hd
  exact ⟨n, h1, by simpa [Lit.wf] using h2⟩

theorem sl_of {α : Type} {K : Kd α} {e : TypeId} {v : Value} (ht : P.underlying t = some (.slice e)) (hc : P.cellsOf e = 1) (hs : K.size = 1)
    (each : ∀ n cs y, DataW.trod enc P w base spare held n e cs = some y → ∃ x, K.rel x cs)
    (h : DataW.trod enc P w base spare held fuel t [v] = some x) : ∃ l, SL K w.heap.size w.heap v l ∧ l.length ≤ 9223372036854775807 := by
  rcases DataW.trod_slice ht h with ⟨h0, _⟩ | ⟨a, len, cap, elems, rest, n, _, hv, _, hb, hl, hm, hlen, hel, _, _⟩
  · cases h0
    exact ⟨[], ⟨none, 0, [], rfl, ⟨Nat.le_refl _, rfl⟩, .inl rfl⟩, Nat.zero_le _⟩
  · cases hv
    have one : ∀ i, i < len → ∃ c y, w.cell? (a.add i) = some c ∧ DataW.trod enc P w base spare held n e [c] = some y := by
      intro i hi
      have := hel i hi
      obtain ⟨y, hy⟩ : ∃ y, elems[i]? = some y := ⟨elems[i], List.getElem?_eq_getElem (by omega)⟩
      rw [hy, hc, Nat.mul_one, Option.bind_eq_some_iff] at this
      obtain ⟨cs, h1, h2⟩ := this
      obtain ⟨z, hz⟩ := each n cs y h2
      have hlen1 : cs.length = 1 := by rw [K.len z cs hz, hs]
      match cs, hlen1, h1, h2 with
      | [c], _, h1, h2 => exact ⟨c, y, cell_of_cells?_one h1, h2⟩
    have go : ∀ m, m ≤ len → ∃ (l : List α) (xs : List Value), l.length = m ∧ xs.length = m ∧ RelL K l xs ∧ ∀ (j : Nat) (u : Value), xs[j]? = some u → w.cell? (a.add j) = some u := by
      intro m
      induction m with
      | zero => intro _; exact ⟨[], [], rfl, rfl, rfl, by simp⟩
      | succ m ih =>
        intro hm'
        obtain ⟨l, xs, h1, h2, h3, h4⟩ := ih (by omega)
        obtain ⟨c, y, h5, h6⟩ := one m (by omega)
        obtain ⟨z, hz⟩ := each n [c] y h6
        refine ⟨l ++ [z], xs ++ [c], by simp [h1], by simp [h2], h3.append (RelL.single hz), ?_⟩
        intro j u hj
        by_cases hjm : j < m
        · rw [List.getElem?_append_left (by omega)] at hj
          exact h4 j u hj
        · rw [List.getElem?_append_right (by omega)] at hj
          have : j = m := by
            have := (List.getElem?_eq_some_iff.1 hj).1
            simp at this
            omega
          subst this
          rw [h2, Nat.sub_self] at hj
          cases hj
          exact h5
    obtain ⟨l, xs, h1, h2, h3, h4⟩ := go len (Nat.le_refl _)
    subst h1
    refine ⟨l, ⟨some a, cap, xs, rfl, ⟨hl, h3⟩, ?_⟩, Nat.le_trans hl (Nat.le_trans hm (by decide))⟩
    by_cases hn : l = []
    · exact .inl hn
    · have hpos : 0 < l.length := List.length_pos_iff.2 hn
      obtain ⟨c, y, h5, _⟩ := one 0 hpos
      refine .inr ⟨a, rfl, ?_, ?_, fun j u hj => ?_⟩
      · have := World.cell?_spot h5
        cases a; simpa [Addr.add] using this
      · have := World.block_lt_of_cell? w _ h5
        rwa [addBlock] at this
      · exact h4 j u hj


theorem each_F {k : FloatKind} {e : TypeId} (he : P.underlying e = some (.float k)) (n : Nat) (cs : List Value) (y : DataW H × List MemPlace) (h : DataW.trod enc P w base spare held n e cs = some y) : ∃ x, (kF k).rel x cs := by
  obtain ⟨b, rfl, hb⟩ := trod_float he h
  exact ⟨_, _, rfl, isF_wf hb⟩
theorem each_I {k : IntKind} {e : TypeId} (he : P.underlying e = some (.int k)) (n : Nat) (cs : List Value) (y : DataW H × List MemPlace) (h : DataW.trod enc P w base spare held n e cs = some y) : ∃ x, (kI k).rel x cs := by
  obtain ⟨b, rfl, _, hb⟩ := DataW.trod_int he h
  exact ⟨b, rfl⟩

/-- a row handed in -/
theorem argL {α : Type} {K : Kd α} {e : TypeId} {r : Reach} {b0 : Nat} {v : Value} {d : DataW H} {ps : List MemPlace} (ht : P.underlying t = some (.slice e)) (hc : P.cellsOf e = 1) (hs : K.size = 1)
    (each : ∀ n cs y, DataW.trod enc P w base spare held n e cs = some y → ∃ x, K.rel x cs)
    (hval : Value.okWide P w r b0 t v) (hd : DataW.Trod enc P w base spare held t v d ps) : ∃ l, SL K w.heap.size w.heap v l ∧ l.length ≤ 9223372036854775807 := by
  obtain ⟨a, l, c, rfl⟩ := okWide_slice ht hval
  obtain ⟨fuel, hf⟩ := hd
  exact sl_of ht hc hs each (by simpa [Value.cells] using hf)

/-- a struct handed in: its cells, each read by itself -/
theorem argS {fs : Array Field} {r : Reach} {b0 : Nat} {v : Value} {d : DataW H} {ps : List MemPlace} (ht : P.underlying t = some (.struct fs)) (hval : Value.okWide P w r b0 t v) (hd : DataW.Trod enc P w base spare held t v d ps) :
    ∃ cs : List Value, v = .agg cs.toArray ∧ cs.length = P.cellsOf t ∧ ∃ n, ∀ (i : Nat) (f : Field), fs[i]? = some f → ∃ y, DataW.trod enc P w base spare held n f.type ((cs.drop f.offset).take (P.cellsOf f.type)) = some y := by
  obtain ⟨cs, rfl, hcs⟩ := okWide_struct ht hval
  obtain ⟨fuel, hf⟩ := hd
  obtain ⟨xs, n, _, _, hl, hx, hall⟩ := DataW.trod_struct ht hf
  have hc : (Value.agg cs).cells.toList = cs.toList := by simp [Value.cells]
  refine ⟨cs.toList, by simp, by simpa using hcs, n, fun i f hfi => ?_⟩
  have hi : i < xs.length := by rw [hx]; exact (Array.getElem?_eq_some_iff.1 hfi).1
  refine ⟨xs[i], ?_⟩
  have := hall i f hfi
  rw [hc, List.getElem?_eq_getElem hi] at this
  exact this

/-- one field of a struct handed in -/
theorem argField {fs : Array Field} {cs : List Value} {n : Nat} (q : ∀ (i : Nat) (f : Field), fs[i]? = some f → ∃ y, DataW.trod enc P w base spare held n f.type ((cs.drop f.offset).take (P.cellsOf f.type)) = some y)
    (i : Nat) {f : Field} (hf : fs[i]? = some f) {k : Nat} {t : TypeId} {xs : List Value} (ht : f.type = t) (hc : P.cellsOf t = k) (hx : (cs.drop f.offset).take k = xs) : ∃ y, DataW.trod enc P w base spare held n t xs = some y := by
  subst ht; subst hc; subst hx
  exact q i f hf
end

/-- what a call that goes on by the plain law leaves of the world -/
theorem below_of {w w' : World} {h : Heap} (hs : Same w w') (hh : w.heap = h) (he : Ext h w'.heap) : Below w.heap.size w w' := by
  subst hh
  exact ⟨hs.os, hs.tape, hs.output, he.size, fun k hk => he.blk k hk⟩
end Go.H

/- The head of a program: its words, one at a time. -/
namespace Go.H
open Go

def sp : Char := Char.ofNat 32

theorem words_sp (r : List Char) : wordsSigns (sp :: r) = [] :: wordsSigns r := rfl

theorem words_ne (r : List Char) : wordsSigns r ≠ [] := by
  cases r with
  | nil => simp [wordsSigns]
  | cons c r =>
    unfold wordsSigns
    split
    · simp
    · simp
    · split <;> simp

theorem words_cons {c : Char} (h : c ≠ sp) (r w : List Char) (ws : List (List Char)) (hr : wordsSigns r = w :: ws) : wordsSigns (c :: r) = (c :: w) :: ws := by
  rw [wordsSigns]
  · rw [hr]
  · exact h

theorem words_word {a : List Char} (h : a.all (· != sp) = true) (r : List Char) : wordsSigns (a ++ sp :: r) = a :: wordsSigns r := by
  induction a with
  | nil => exact words_sp r
  | cons c a ih =>
    simp only [List.all_cons, Bool.and_eq_true, bne_iff_ne, ne_eq] at h
    exact words_cons h.1 _ _ _ (ih h.2)

theorem head_words {P : Program} {h s c : List Char} {r : List Char} (hio : P.initOrder = String.ofList (h ++ sp :: (s ++ sp :: (c ++ sp :: r)))) (ha : h.all (· != sp) = true) (hb : s.all (· != sp) = true) (hc : c.all (· != sp) = true)
    (hm : ((h == "harness".toList || h == "ownmain".toList) && isSumSigns s) = true) : ∃ W, behindMainWord (wordsSigns P.initOrder.toList) = c :: W := by
  rw [hio, String.toList_ofList, words_word ha, words_word hb, words_word hc]
  refine ⟨wordsSigns r, ?_⟩
  show (if ((h == "harness".toList || h == "ownmain".toList) && isSumSigns s) = true then _ else _) = _
  rw [if_pos hm]

def cutWord : List Char := [Char.ofNat 99, Char.ofNat 117, Char.ofNat 116]

theorem strip_cut (W : List (List Char)) : stripLifts liftWords (cutWord :: W) = ([], cutWord :: W) := by
  have key : ∀ l : List String, l.all (fun o => cutWord == o.toList) = false → l.all (fun o => !(cutWord == o.toList)) = true → stripLifts l (cutWord :: W) = ([], cutWord :: W) := by
    intro l _ h
    induction l with
    | nil => rfl
    | cons o l ih =>
      simp only [List.all_cons, Bool.and_eq_true, Bool.not_eq_true'] at h
      rw [stripLifts, if_neg (by rw [h.1]; decide)]
      by_cases hl : l.all (fun o => cutWord == o.toList) = false
      · exact ih hl h.2
      · cases l with
        | nil => rfl
        | cons o' l' => exact absurd (by simp only [List.all_cons, Bool.and_eq_true, Bool.not_eq_true'] at h; simp only [List.all_cons, h.2.1, Bool.false_and]) hl
  exact key liftWords (by decide +kernel) (by decide +kernel)

theorem may_enter {P : Program} (hw : ∃ W, behindMainWord (wordsSigns P.initOrder.toList) = cutWord :: W) (hl : P.laysLater = false) (hr : P.bearsReflect = false) (hd : P.doorFits [] = true) : P.mayEnter = true := by
  obtain ⟨W, hW⟩ := hw
  unfold Program.mayEnter
  rw [hW]
  dsimp only
  rw [strip_cut, hl, hr, hd]
  have h1 : (cutWord :: W).head? == some "cut".toList := by
    show (some cutWord == some "cut".toList) = true
    decide +kernel
  simp only [h1, Bool.not_false, Bool.or_true, Bool.and_true, List.contains_nil]

theorem head_lifts {P : Program} (hw : ∃ W, behindMainWord (wordsSigns P.initOrder.toList) = cutWord :: W) : P.headLifts = [] := by
  obtain ⟨W, hW⟩ := hw
  unfold Program.headLifts
  rw [hW, strip_cut]
  dsimp only
  split <;> rfl

theorem lifts_final {P : Program} (hw : ∃ W, behindMainWord (wordsSigns P.initOrder.toList) = cutWord :: W) : P.liftsFinal = false := by
  unfold Program.liftsFinal
  rw [head_lifts hw]
  obtain ⟨W, hW⟩ := hw
  rw [hW]
  have h1 : ((cutWord :: W).head? == some "carried".toList) = false := by
    show (some cutWord == some "carried".toList) = false
    decide +kernel
  dsimp only
  rw [h1]
  rfl

theorem make_cut {P : Program} (hw : ∃ W, behindMainWord (wordsSigns P.initOrder.toList) = cutWord :: W) : P.make = some .cut := by
  obtain ⟨W, hW⟩ := hw
  unfold Program.make
  rw [hW]
  dsimp only
  have h1 : (cutWord == "gc".toList || cutWord == "spec".toList) = false := by decide +kernel
  have h2 : (cutWord == "cut".toList) = true := by decide +kernel
  rw [h1, h2]
  rfl

theorem list1 {l : List Value} (h : l.length = 1) : ∃ x0, l = [x0] := by
  match l, h with
  | [x0], _ => exact ⟨x0, rfl⟩
theorem list2 {l : List Value} (h : l.length = 2) : ∃ x0 x1, l = [x0, x1] := by
  match l, h with
  | [x0, x1], _ => exact ⟨x0, x1, rfl⟩
theorem list3 {l : List Value} (h : l.length = 3) : ∃ x0 x1 x2, l = [x0, x1, x2] := by
  match l, h with
  | [x0, x1, x2], _ => exact ⟨x0, x1, x2, rfl⟩
theorem list4 {l : List Value} (h : l.length = 4) : ∃ x0 x1 x2 x3, l = [x0, x1, x2, x3] := by
  match l, h with
  | [x0, x1, x2, x3], _ => exact ⟨x0, x1, x2, x3, rfl⟩
theorem list5 {l : List Value} (h : l.length = 5) : ∃ x0 x1 x2 x3 x4, l = [x0, x1, x2, x3, x4] := by
  match l, h with
  | [x0, x1, x2, x3, x4], _ => exact ⟨x0, x1, x2, x3, x4, rfl⟩
theorem list6 {l : List Value} (h : l.length = 6) : ∃ x0 x1 x2 x3 x4 x5, l = [x0, x1, x2, x3, x4, x5] := by
  match l, h with
  | [x0, x1, x2, x3, x4, x5], _ => exact ⟨x0, x1, x2, x3, x4, x5, rfl⟩
end Go.H

/- Rows of bytes that are handed in: each lies in its range. -/
set_option linter.unusedVariables false
namespace Go.H
open Go Go.ChangeShapes Go.WideShapes Go.ChangeAt Go.RowKit

def kR (k : IntKind) : Kd Int where
  size := 1
  rel n us := us = [.int k n] ∧ k.min ≤ n ∧ n ≤ k.max
  len := by rintro _ _ ⟨rfl, _⟩; rfl
  one := by rintro _ _ ⟨rfl, _⟩ u hu; simp at hu; subst hu; rfl
  pos := by decide

theorem RelL.range {k : IntKind} : ∀ {l : List Int} {xs : List Value}, RelL (kR k) l xs → RelL (kI k) l xs ∧ ∀ x ∈ l, k.min ≤ x ∧ x ≤ k.max
  | [], xs, h => ⟨h, by simp⟩
  | n :: l, xs, ⟨us, r, e, ⟨e2, hn⟩, h⟩ => by
    obtain ⟨h1, h2⟩ := RelL.range h
    refine ⟨⟨us, r, e, e2, h1⟩, fun x hx => ?_⟩
    rcases List.mem_cons.1 hx with rfl | hx
    · exact hn
    · exact h2 x hx

theorem SL.range {k : IntKind} {e : Nat} {h : Heap} {v : Value} {l : List Int} (H : SL (kR k) e h v l) : SL (kI k) e h v l ∧ ∀ x ∈ l, k.min ≤ x ∧ x ≤ k.max := by
  obtain ⟨a, c, xs, hv, ⟨hc, hr⟩, hm⟩ := H
  obtain ⟨h1, h2⟩ := hr.range
  exact ⟨⟨a, c, xs, hv, ⟨hc, h1⟩, hm⟩, h2⟩

section
variable {H : Type} {enc : TypeId × Value → H} {P : Program} {w : World} {base : Nat} {spare : Nat → Bool} {held : Bool}
theorem each_R {k : IntKind} {e : TypeId} (he : P.underlying e = some (.int k)) (n : Nat) (cs : List Value) (y : DataW H × List MemPlace) (h : DataW.trod enc P w base spare held n e cs = some y) : ∃ x, (kR k).rel x cs := by
  obtain ⟨b, rfl, _, hb⟩ := DataW.trod_int he h
  exact ⟨b, rfl, by simpa [Lit.wf] using hb⟩
end
end Go.H
