/- Literals of several elements of one cell each. -/
import Derived.Test.YtohfgnjmgipehaaBase22
set_option linter.unusedVariables false
namespace Go.H
open Go

section
variable {P : Program} {N : Nat} {φ : Fr} {h : Heap} {o : Oper}

theorem RelL.ints {k : IntKind} : ∀ zs : List Int, RelL (kI k) zs (zs.map fun z => Value.int k z)
  | [] => rfl
  | z :: zs => ⟨[Value.int k z], zs.map (fun z => Value.int k z), rfl, rfl, RelL.ints zs⟩

theorem range_cells (n : Nat) (q : Value) : ((Array.range n).map (fun i => #[q][i % 1]!)) = (List.replicate n q).toArray := by
  have h : (fun i => #[q][i % 1]!) = fun _ : Nat => q := by
    funext i
    rw [Nat.mod_one]; rfl
  rw [h]
  apply Array.ext
  · simp
  · intro i h1 h2; simp

/-- a literal of several elements of one cell each -/
theorem opS_litN {α : Type} {K : Kd α} {t E : TypeId} {len b : Nat} {xs : List (Nat × Operand)} {us : List Value} {zs : List α} {zz q : Value} (r : List (Nat × List Value)) (vs : List (Nat × Value)) (ho : o.op = .buildSlice t len xs.toArray) (ht : P.underlying t = some (.slice E)) (hinf : elemInfo P E = some (zz, 1, b)) (hzz : zz.cells = #[q]) (hsm : (Nat.ble 1 len && Nat.ble len 1000) = true)
    (hp : partsOK φ xs r vs) (hf : fillL ((List.range len).map fun i => (i, 1)) (List.replicate len q) r = some us) (h1 : K.size = 1) (hz : RelL K zs us) (hzl : zs.length = len) (hul : us.length = len) :
    OpV P φ o h (Made h [] (fun v => [ownO K E v zs])) := by
  intro a w hev hw'
  subst hw'
  obtain ⟨i, hi, hzr, hs, _⟩ := elemInfo_some hinf
  rw [Bool.and_eq_true] at hsm
  have hs1 := Nat.le_of_ble_eq_true hsm.1
  have hs2 := Nat.le_of_ble_eq_true hsm.2
  have hm := partsOK.map (a := a) hev hp
  have hm' : (xs.toArray.map fun (x : Nat × Operand) => (x.1, a.eval x.2)).toList = vs := by simp [hm]
  have hfill : Instr.fill (fun i => some (i * 1, 1)) ((Array.range len).map (fun i => zz.cells[i % zz.cells.size]!)) vs = some us.toArray := by
    rw [hzz]
    show Instr.fill _ ((Array.range len).map (fun i => #[q][i % 1]!)) vs = _
    rw [range_cells]
    have := fill_of hp hf
    refine fill_total ?_ this
    intro i p hp'
    have hp' : ((List.range len).map fun i => (i, 1))[i]? = some p := by simpa using hp'
    rw [List.getElem?_map] at hp'
    by_cases hl : i < len
    · rw [List.getElem?_range hl, Option.map_some] at hp'
      rw [Nat.mul_one]; exact hp'
    · rw [List.getElem?_eq_none (by simpa using hl)] at hp'; cases hp'
  have hbig : ¬ (16777216 < len) := by omega
  have hn0 : len ≠ 0 := by omega
  have hrun : (execOp a.eval o).run P w = .ok (.value (.slice (some ⟨w.heap.size, 0, none⟩) len len)) (w.alloc (.cells us.toArray E)) := by
    simp [execOp, ho, Instr.buildSlice, run_underlying ht, sizeOf, typeInfo, hi, hs, zeroValue, hzr, newRow, hbig, hn0]
    simp [hm, Nat.mul_one] at hfill ⊢
    simp [hfill]
  refine .inl ⟨_, _, hrun, ⟨rfl, rfl, rfl⟩, (ext_push _ _).mod _, ?_⟩
  have hnew : (w.alloc (.cells us.toArray E)).heap[w.heap.size]? = some (.cells us.toArray E (0, 0)) := heap_alloc_new w _
  have hown : Own K E 0 (w.alloc (.cells us.toArray E)).heap (.slice (some ⟨w.heap.size, 0, none⟩) len len) zs := by
    refine ⟨us, ⟨by simp [hul, hzl, h1], .inr ⟨w.heap.size, len, us.toArray, by rw [hzl], Nat.zero_le _, hnew, by omega, by simp only [maxLen]; omega, by simp [hul, h1], by rw [hzl, h1, Nat.mul_one]; simp [← hul]⟩⟩, hz⟩
  exact Sep.one hown (fun b hb => by
    simp [ownO, Value.ownBlock] at hb
    subst hb
    exact ⟨by show w.heap.size < (w.heap.push _).size; simp, .inl (Nat.le_refl _)⟩)
end
end Go.H
