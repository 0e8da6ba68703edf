/- Arguments as the statements read them: numbers, rows. -/
import Derived.Test.YtohfgnjmgipehaaBase11
import Derived.WalkKit
import Derived.ProofKit
import Derived.OpenShut
import Derived.ShutString
import Derived.ChangeOld
import Derived.Below
namespace Go.H
open Go Go.ChangeShapes Go.WideShapes Go.ChangeAt Go.RowKit

section
variable {H : Type} {enc : TypeId × Value → H} {P : Program} {w : World} {base : Nat} {spare : Nat → Bool} {held : Bool} {fuel : Nat} {t : TypeId} {cs : List Value} {x : DataW H × List MemPlace}

theorem trod_float {k : FloatKind} (ht : P.underlying t = some (.float k)) (h : DataW.trod enc P w base spare held fuel t cs = some x) : ∃ b, cs = [.float k b] ∧ (Lit.float k b).wf = true := by
  cases fuel with
  | zero => simp [DataW.trod] at h
  | succ n =>
    unfold DataW.trod at h
    rw [ht] at h
    split at h <;> simp_all

theorem isF_wf {k : FloatKind} {b : Nat} (h : (Lit.float k b).wf = true) : IsF k (.float k b) (cls k b) := by
  refine ⟨b, rfl, ?_, rfl⟩
  cases k
  · have : b < 2 ^ 32 := by simpa [Lit.wf] using h
    exact this
  · have : b < 2 ^ 64 := by simpa [Lit.wf] using h
    exact this

theorem okWide_float {k : FloatKind} {r : Reach} {b0 : Nat} {v : Value} (ht : P.underlying t = some (.float k)) (h : Value.okWide P w r b0 t v) : ∃ b, v = .float k b := by
  simp only [Value.okWide, ht, Cell.okWide] at h
  cases v <;> simp_all [Cell.ok]

theorem argF {k : FloatKind} {r : Reach} {b0 : Nat} {v : Value} {d : DataW H} {ps : List MemPlace} (ht : P.underlying t = some (.float k)) (hval : Value.okWide P w r b0 t v) (hd : DataW.Trod enc P w base spare held t v d ps) : ∃ a, IsF k v a := by
  obtain ⟨b, rfl⟩ := okWide_float ht hval
  obtain ⟨fuel, hf⟩ := hd
  obtain ⟨b', h, hw⟩ := trod_float ht hf
  simp [Value.cells] at h
  subst h
  exact ⟨_, isF_wf hw⟩

theorem argI {k : IntKind} {r : Reach} {b0 : Nat} {v : Value} {d : DataW H} {ps : List MemPlace} (ht : P.underlying t = some (.int k)) (hval : Value.okWide P w r b0 t v) (hd : DataW.Trod enc P w base spare held t v d ps) : ∃ a, v = .int k a ∧ k.min ≤ a ∧ a ≤ k.max := by
  obtain ⟨n, h1, _, _, h2⟩ := open_int ht hval hd
  exact ⟨n, h1, by simpa [Lit.wf] using h2⟩

theorem sl_of {α : Type} {K : Kd α} {e : TypeId} {v : Value} (ht : P.underlying t = some (.slice e)) (hc : P.cellsOf e = 1) (hs : K.size = 1)
    (each : ∀ n cs y, DataW.trod enc P w base spare held n e cs = some y → ∃ x, K.rel x cs)
    (h : DataW.trod enc P w base spare held fuel t [v] = some x) : ∃ l, SL K w.heap.size w.heap v l ∧ l.length ≤ 9223372036854775807 := by
  rcases DataW.trod_slice ht h with ⟨h0, _⟩ | ⟨a, len, cap, elems, rest, n, _, hv, _, hb, hl, hm, hlen, hel, _, _⟩
  · cases h0
    exact ⟨[], ⟨none, 0, [], rfl, ⟨Nat.le_refl _, rfl⟩, .inl rfl⟩, Nat.zero_le _⟩
  · cases hv
    have one : ∀ i, i < len → ∃ c y, w.cell? (a.add i) = some c ∧ DataW.trod enc P w base spare held n e [c] = some y := by
      intro i hi
      have := hel i hi
      obtain ⟨y, hy⟩ : ∃ y, elems[i]? = some y := ⟨elems[i], List.getElem?_eq_getElem (by omega)⟩
      rw [hy, hc, Nat.mul_one, Option.bind_eq_some_iff] at this
      obtain ⟨cs, h1, h2⟩ := this
      obtain ⟨z, hz⟩ := each n cs y h2
      have hlen1 : cs.length = 1 := by rw [K.len z cs hz, hs]
      match cs, hlen1, h1, h2 with
      | [c], _, h1, h2 => exact ⟨c, y, cell_of_cells?_one h1, h2⟩
    have go : ∀ m, m ≤ len → ∃ (l : List α) (xs : List Value), l.length = m ∧ xs.length = m ∧ RelL K l xs ∧ ∀ (j : Nat) (u : Value), xs[j]? = some u → w.cell? (a.add j) = some u := by
      intro m
      induction m with
      | zero => intro _; exact ⟨[], [], rfl, rfl, rfl, by simp⟩
      | succ m ih =>
        intro hm'
        obtain ⟨l, xs, h1, h2, h3, h4⟩ := ih (by omega)
        obtain ⟨c, y, h5, h6⟩ := one m (by omega)
        obtain ⟨z, hz⟩ := each n [c] y h6
        refine ⟨l ++ [z], xs ++ [c], by simp [h1], by simp [h2], h3.append (RelL.single hz), ?_⟩
        intro j u hj
        by_cases hjm : j < m
        · rw [List.getElem?_append_left (by omega)] at hj
          exact h4 j u hj
        · rw [List.getElem?_append_right (by omega)] at hj
          have : j = m := by
            have := (List.getElem?_eq_some_iff.1 hj).1
            simp at this
            omega
          subst this
          rw [h2, Nat.sub_self] at hj
          cases hj
          exact h5
    obtain ⟨l, xs, h1, h2, h3, h4⟩ := go len (Nat.le_refl _)
    subst h1
    refine ⟨l, ⟨some a, cap, xs, rfl, ⟨hl, h3⟩, ?_⟩, Nat.le_trans hl (Nat.le_trans hm (by decide))⟩
    by_cases hn : l = []
    · exact .inl hn
    · have hpos : 0 < l.length := List.length_pos_iff.2 hn
      obtain ⟨c, y, h5, _⟩ := one 0 hpos
      refine .inr ⟨a, rfl, ?_, ?_, fun j u hj => ?_⟩
      · have := World.cell?_spot h5
        cases a; simpa [Addr.add] using this
      · have := World.block_lt_of_cell? w _ h5
        rwa [addBlock] at this
      · exact h4 j u hj


theorem each_F {k : FloatKind} {e : TypeId} (he : P.underlying e = some (.float k)) (n : Nat) (cs : List Value) (y : DataW H × List MemPlace) (h : DataW.trod enc P w base spare held n e cs = some y) : ∃ x, (kF k).rel x cs := by
  obtain ⟨b, rfl, hb⟩ := trod_float he h
  exact ⟨_, _, rfl, isF_wf hb⟩
theorem each_I {k : IntKind} {e : TypeId} (he : P.underlying e = some (.int k)) (n : Nat) (cs : List Value) (y : DataW H × List MemPlace) (h : DataW.trod enc P w base spare held n e cs = some y) : ∃ x, (kI k).rel x cs := by
  obtain ⟨b, rfl, _, hb⟩ := DataW.trod_int he h
  exact ⟨b, rfl⟩

/-- a row handed in -/
theorem argL {α : Type} {K : Kd α} {e : TypeId} {r : Reach} {b0 : Nat} {v : Value} {d : DataW H} {ps : List MemPlace} (ht : P.underlying t = some (.slice e)) (hc : P.cellsOf e = 1) (hs : K.size = 1)
    (each : ∀ n cs y, DataW.trod enc P w base spare held n e cs = some y → ∃ x, K.rel x cs)
    (hval : Value.okWide P w r b0 t v) (hd : DataW.Trod enc P w base spare held t v d ps) : ∃ l, SL K w.heap.size w.heap v l ∧ l.length ≤ 9223372036854775807 := by
  obtain ⟨a, l, c, rfl⟩ := okWide_slice ht hval
  obtain ⟨fuel, hf⟩ := hd
  exact sl_of ht hc hs each (by simpa [Value.cells] using hf)

/-- a struct handed in: its cells, each read by itself -/
theorem argS {fs : Array Field} {r : Reach} {b0 : Nat} {v : Value} {d : DataW H} {ps : List MemPlace} (ht : P.underlying t = some (.struct fs)) (hval : Value.okWide P w r b0 t v) (hd : DataW.Trod enc P w base spare held t v d ps) :
    ∃ cs : List Value, v = .agg cs.toArray ∧ cs.length = P.cellsOf t ∧ ∃ n, ∀ (i : Nat) (f : Field), fs[i]? = some f → ∃ y, DataW.trod enc P w base spare held n f.type ((cs.drop f.offset).take (P.cellsOf f.type)) = some y := by
  obtain ⟨cs, rfl, hcs⟩ := okWide_struct ht hval
  obtain ⟨fuel, hf⟩ := hd
  obtain ⟨xs, n, _, _, hl, hx, hall⟩ := DataW.trod_struct ht hf
  have hc : (Value.agg cs).cells.toList = cs.toList := by simp [Value.cells]
  refine ⟨cs.toList, by simp, by simpa using hcs, n, fun i f hfi => ?_⟩
  have hi : i < xs.length := by rw [hx]; exact (Array.getElem?_eq_some_iff.1 hfi).1
  refine ⟨xs[i], ?_⟩
  have := hall i f hfi
  rw [hc, List.getElem?_eq_getElem hi] at this
  exact this

/-- one field of a struct handed in -/
theorem argField {fs : Array Field} {cs : List Value} {n : Nat} (q : ∀ (i : Nat) (f : Field), fs[i]? = some f → ∃ y, DataW.trod enc P w base spare held n f.type ((cs.drop f.offset).take (P.cellsOf f.type)) = some y)
    (i : Nat) {f : Field} (hf : fs[i]? = some f) {k : Nat} {t : TypeId} {xs : List Value} (ht : f.type = t) (hc : P.cellsOf t = k) (hx : (cs.drop f.offset).take k = xs) : ∃ y, DataW.trod enc P w base spare held n t xs = some y := by
  subst ht; subst hc; subst hx
  exact q i f hf
end

/-- what a call that goes on by the plain law leaves of the world -/
theorem below_of {w w' : World} {h : Heap} (hs : Same w w') (hh : w.heap = h) (he : Ext h w'.heap) : Below w.heap.size w w' := by
  subst hh
  exact ⟨hs.os, hs.tape, hs.output, he.size, fun k hk => he.blk k hk⟩
end Go.H
