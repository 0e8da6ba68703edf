/- Functions as values; structs that are built; literals. -/
import Derived.Test.YtohfgnjmgipehaaBase15
import Derived.Laws.Tables
set_option linter.unusedVariables false
namespace Go.H
open Go

section
variable {P : Program} {φ : Fr} {h : Heap} {o : Oper}

theorem opv_makeFunc {f : FuncId} {xs : List Operand} {vs : List Value} (ho : o.op = .makeFunc (.func f) #[] xs.toArray) (hx : φ.evs xs vs) : OpV P φ o h (Det (.func (.func f) #[] vs.toArray) h) := by
  intro a w hev hw
  have hm : xs.map a.eval = vs := Fr.evs_map hev hx
  have hm' : xs.toArray.map a.eval = vs.toArray := by simp [hm]
  refine .inl ⟨_, w, ?_, Same.refl w, rfl, hw.symm⟩
  simp [execOp, ho, Instr.makeFunc, hm']

theorem opv_nilCheckF {x : Operand} {f : FuncId} {fs cs : Array Value} (ho : o.op = .nilCheck x) (hx : φ.ev x = some (.func (.func f) fs cs)) : OpV P φ o h (Det (.func (.func f) fs cs) h) := by
  intro a' w hev hw'
  exact .inl ⟨_, w, by simp [execOp, ho, hev x _ hx], Same.refl w, rfl, hw'.symm⟩

/-- the zero's cells of a struct, and where its fields lie -/
def bldInfo (P : Program) (t : TypeId) : Option (List Value × List (Nat × Nat)) :=
  match P.info? t, P.underlying t with
  | some it, some (.struct fields) =>
    match it.zero, fields.toList.mapM (fun f => (P.info? f.type).map fun i => (f.offset, i.size)) with
    | some z, some places => some (z.cells.toList, places)
    | _, _ => none
  | _, _ => none

def putL : List Value → Nat → List Value → List Value
  | cs, _, [] => cs
  | cs, n, u :: us => putL (cs.set n u) (n + 1) us

def fillL (places : List (Nat × Nat)) : List Value → List (Nat × List Value) → Option (List Value)
  | cs, [] => some cs
  | cs, (i, us) :: r => match places[i]? with
    | none => none
    | some (off, size) => bif Nat.beq us.length size && Nat.ble (off + us.length) cs.length then fillL places (putL cs off us) r else none

def partsOK (φ : Fr) : List (Nat × Operand) → List (Nat × List Value) → List (Nat × Value) → Prop
  | [], [], [] => True
  | (i, x) :: xs, (j, us) :: r, (k, v) :: vs => (φ.ev x = some v ∧ i = j ∧ i = k ∧ v.cells = us.toArray) ∧ partsOK φ xs r vs
  | _, _, _ => False

theorem cells1 {v : Value} (h : v.oneCell' = true) : v.cells = [v].toArray := by cases v <;> first | rfl | cases h

theorem putL_fold : ∀ (us : List Value) (off k : Nat) (cs : List Value), (us.zipIdx k).foldl (fun (cs : Array Value) (x : Value × Nat) => cs.setIfInBounds (off + x.2) x.1) cs.toArray = (putL cs (off + k) us).toArray
  | [], _, _, _ => rfl
  | u :: us, off, k, cs => by
    rw [List.zipIdx_cons, List.foldl_cons]
    show (us.zipIdx (k + 1)).foldl _ (cs.toArray.setIfInBounds (off + k) u) = _
    rw [List.setIfInBounds_toArray, putL_fold us off (k + 1)]
    rfl

theorem fill_of : ∀ {xs : List (Nat × Operand)} {r : List (Nat × List Value)} {vs : List (Nat × Value)} {places : List (Nat × Nat)} {cs cs' : List Value}, partsOK φ xs r vs → fillL places cs r = some cs' → Instr.fill (places.toArray[·]?) cs.toArray vs = some cs'.toArray
  | [], [], [], _, _, _, _, hf => by cases hf; rfl
  | (i, x) :: xs, (j, us) :: r, (k, v) :: vs, places, cs, cs', hp, hf => by
    obtain ⟨⟨_, rfl, rfl, hc⟩, hp⟩ := hp
    unfold fillL at hf
    unfold Instr.fill
    cases hpl : places[i]? with
    | none => rw [hpl] at hf; cases hf
    | some q =>
      obtain ⟨off, size⟩ := q
      rw [hpl] at hf
      have hpl' : places.toArray[i]? = some (off, size) := by simpa using hpl
      simp only [hpl']
      simp only at hf
      cases hb : Nat.beq us.length size && Nat.ble (off + us.length) cs.length with
      | false => rw [hb] at hf; cases hf
      | true =>
        rw [hb] at hf
        rw [Bool.and_eq_true] at hb
        have h1 := Nat.eq_of_beq_eq_true hb.1
        have h2 := Nat.le_of_ble_eq_true hb.2
        rw [if_neg (by rw [hc]; simp; omega), hc]
        have := putL_fold us off 0 cs
        rw [Nat.add_zero] at this
        have e : (us.toArray.zipIdx.foldl (fun (cs : Array Value) (x : Value × Nat) => cs.setIfInBounds (off + x.2) x.1) cs.toArray) = (putL cs off us).toArray := by
          rw [← this]; simp
        show Instr.fill _ (us.toArray.zipIdx.foldl (fun (cs : Array Value) (x : Value × Nat) => cs.setIfInBounds (off + x.2) x.1) cs.toArray) vs = _
        rw [e]
        exact fill_of hp hf
  | [], [], _ :: _, _, _, _, hp, _ => hp.elim
  | [], _ :: _, _, _, _, _, hp, _ => hp.elim
  | _ :: _, [], _, _, _, _, hp, _ => hp.elim
  | _ :: _, _ :: _, [], _, _, _, hp, _ => hp.elim

theorem partsOK.map {a : Act} (hev : ∀ x v, φ.ev x = some v → a.eval x = v) : ∀ {xs : List (Nat × Operand)} {r : List (Nat × List Value)} {vs : List (Nat × Value)}, partsOK φ xs r vs → xs.map (fun p => (p.1, a.eval p.2)) = vs
  | [], [], [], _ => rfl
  | (i, x) :: xs, (j, us) :: r, (k, v) :: vs, hp => by
    obtain ⟨⟨h1, rfl, rfl, hc⟩, hp⟩ := hp
    rw [List.map_cons, partsOK.map hev hp, hev x v h1]
  | [], [], _ :: _, hp => hp.elim
  | [], _ :: _, _, hp => hp.elim
  | _ :: _, [], _, hp => hp.elim
  | _ :: _, _ :: _, [], hp => hp.elim

theorem opv_build {t : TypeId} {xs : List (Nat × Operand)} {zs cs : List Value} {places : List (Nat × Nat)} (r : List (Nat × List Value)) (vs : List (Nat × Value)) (ho : o.op = .build t xs.toArray) (hb : bldInfo P t = some (zs, places)) (hp : partsOK φ xs r vs) (hf : fillL places zs r = some cs) : OpV P φ o h (Det (.agg cs.toArray) h) := by
  intro a w hev hw
  refine .inl ⟨_, w, ?_, Same.refl w, rfl, hw.symm⟩
  have hbt : P.built t vs = some cs.toArray := by
    unfold bldInfo at hb
    unfold Program.built
    split at hb
    · rename_i it fields h1 h2
      split at hb
      · rename_i z pl h3 h4
        cases hb
        simp only [h1, h2, h3, h4]
        have := fill_of hp hf
        simpa using this
      · cases hb
    · cases hb
  have hm := partsOK.map (a := a) hev hp
  have hm' : (xs.toArray.map fun (x : Nat × Operand) => (x.1, a.eval x.2)).toList = vs := by simp [hm]
  have := run_build w t (xs.toArray.map fun (x : Nat × Operand) => (x.1, a.eval x.2)) cs.toArray (by rw [hm']; exact hbt)
  simp [execOp, ho] at this ⊢
  simp [this]

/-- the cells of a list's elements, one after another -/
theorem RelL.of_single {α : Type} {K : Kd α} {z : α} {us : List Value} (h : K.rel z us) : RelL K [z] us := ⟨us, [], by simp, h, rfl⟩

/-- a literal of one element of several cells -/
theorem opS_litW {α : Type} {K : Kd α} {t E : TypeId} {x : Operand} {u : Value} {us : List Value} {z : α} {n b : Nat} {zz : Value} (ho : o.op = .buildSlice t 1 #[(0, x)]) (ht : P.underlying t = some (.slice E)) (hinf : elemInfo P E = some (zz, n, b)) (hn : n = K.size) (hzz : zz.cells.size = n) (hsm : Nat.ble n 1000 = true) (hx : φ.ev x = some u) (hc : u.cells = us.toArray) (hz : K.rel z us) :
    OpV P φ o h (Made h [] (fun v => [ownO K E v [z]])) := by
  intro a w hev hw'
  subst hw'
  obtain ⟨i, hi, hzr, hs, _⟩ := elemInfo_some hinf
  have hsm := Nat.le_of_ble_eq_true hsm
  have hul : us.length = n := by rw [hn]; exact K.len z us hz
  have hpos : 0 < n := by rw [hn]; exact K.pos
  have hrun : (execOp a.eval o).run P w = .ok (.value (.slice (some ⟨w.heap.size, 0, none⟩) 1 1)) (w.alloc (.cells us.toArray E)) := by
    have h2 : ∀ (us cs : List Value) (k : Nat) (pre : List Value), pre.length = k → cs.length = us.length → putL (pre ++ cs) k us = pre ++ us := by
      intro us
      induction us with
      | nil => intro cs k pre hk hl; have : cs = [] := List.eq_nil_of_length_eq_zero (by simpa using hl); subst this; rfl
      | cons u us ih =>
        intro cs k pre hk hl
        cases cs with
        | nil => simp at hl
        | cons c cs =>
          show putL ((pre ++ c :: cs).set k u) (k + 1) us = _
          rw [List.set_append_right _ _ (by omega), hk, Nat.sub_self, List.set_cons_zero]
          have := ih cs (k + 1) (pre ++ [u]) (by simp [hk]) (by simpa using hl)
          simpa using this
    have hfillA : ∀ A : Array Value, A.size = us.length → Instr.fill (fun i => some (i * n, n)) A [(0, u)] = some us.toArray := by
      intro A hA
      obtain ⟨l⟩ := A
      have hl : l.length = us.length := by simpa using hA
      unfold Instr.fill
      simp only [Nat.zero_mul, Nat.zero_add]
      rw [if_neg (by rw [hc]; simp [hul, hl])]
      unfold Instr.fill
      rw [hc]
      have := putL_fold us 0 0 l
      have h3 := h2 us l 0 [] rfl hl
      simp only [List.nil_append] at h3
      rw [Nat.zero_add, h3] at this
      simp only [Nat.zero_add] at this
      simpa using this
    have hfill' := hfillA ((Array.range n).map (zz.cells[· % zz.cells.size]!)) (by simp [hul])
    have hbig : ¬ (n > 2 ^ 24) := by omega
    have hbig' : ¬ (16777216 < n) := by omega
    have hn0 : n ≠ 0 := by omega
    simp [execOp, ho, hev x _ hx, Instr.buildSlice, run_underlying ht, sizeOf, typeInfo, hi, hs, zeroValue, hzr, newRow, hbig', hn0] 
    simp [hfill']
  refine .inl ⟨_, _, hrun, ⟨rfl, rfl, rfl⟩, (ext_push _ _).mod _, ?_⟩
  have hnew : (w.alloc (.cells us.toArray E)).heap[w.heap.size]? = some (.cells us.toArray E (0, 0)) := heap_alloc_new w _
  have hown : Own K E 0 (w.alloc (.cells us.toArray E)).heap (.slice (some ⟨w.heap.size, 0, none⟩) 1 1) [z] := by
    refine ⟨us, ⟨by simp [hul, hn], .inr ⟨w.heap.size, 1, us.toArray, rfl, Nat.zero_le _, hnew, Nat.le_refl _, by decide, by simp [hul, hn], by simp [show K.size = us.length by omega]⟩⟩, RelL.of_single hz⟩
  exact Sep.one hown (fun b hb => by
    simp [ownO, Value.ownBlock] at hb
    subst hb
    exact ⟨by show w.heap.size < (w.heap.push _).size; simp, .inl (Nat.le_refl _)⟩)
/-- appending to a literal without elements makes a new row -/
theorem opS_append0 {α : Type} {K : Kd α} {t E : TypeId} {x y : Operand} {e g : Nat} {vy zz : Value} {m : List α} {n b : Nat} (ho : o.op = .call { callee := .builtin .append, args := #[x, y], argTypes := #[t, t] }) (ht : P.underlying t = some (.slice E)) (hinf : elemInfo P E = some (zz, n, b)) (hn : n = K.size) (hzz : zz.cells.size = n)
    (hx : φ.ev x = some (.slice (some ⟨g, 0, none⟩) 0 0)) (hy : φ.ev y = some vy) (H : (ownO K E (.slice (some ⟨g, 0, none⟩) 0 0) ([] : List α)).holds h) (HY : SL K e h vy m) (hb : 0 < b) (hb2 : b ≤ 64) (hfit : 0 < m.length ∧ m.length ≤ 1000000000) :
    OpV P φ o h (Made h [] (fun u => [ownO K E u m])) := by
  intro a w hev hw'
  subst hw'
  obtain ⟨i, hi, hz, hs, hby⟩ := elemInfo_some hinf
  obtain ⟨xs, hown, hr⟩ := H
  obtain ⟨ay, c, ys, rfl, ⟨hmc, hry⟩, hc⟩ := HY
  have hxs : xs = [] := hr
  subst hxs
  have hfit' : (0 + m.length) * b ≤ 140737488355328 := Nat.le_trans (Nat.mul_le_mul (show 0 + m.length ≤ 1000000000 by omega) hb2) (by decide)
  have hml : 0 + m.length ≤ maxLen := by simp only [maxLen]; omega
  rcases hc with rfl | ⟨p, rfl, hsp, hpb, hcell⟩
  · simp at hfit
  · have hnews : ∀ j u, ys[j]? = some u → w.cell? (p.add j) = some u := hcell
    have hyl : ys.length = m.length * i.size := by rw [hry.length, hs, hn]
    obtain ⟨u, w', h1, h2, h3, h4⟩ := run_append_own (P := P) w 0 t o.type E i zz K.size b ht hi hz (by omega) hby (by omega) K.pos (.slice (some ⟨g, 0, none⟩) 0 0) 0 [] hown p m.length c ys (by rw [hry.length]) hnews hry.one hml hfit' (Nat.zero_le _)
    have hrr := run_append_grow (P := P) w t o.type E i zz ht hi hz ⟨g, 0, none⟩ 0 0 [] (by simp) (by simp) p m.length c ys hyl hnews (by omega) (by simp only [maxLen] at hml; omega) (growslice_fits (by omega) (by rw [hby]; exact hfit'))
    rw [h1] at hrr
    simp only [Result.ok.injEq] at hrr
    obtain ⟨e1, e2⟩ := hrr
    have hext : Ext w.heap w'.heap := by rw [e2]; exact ext_push _ _
    have h2' : (hw w'.heap).ownsRow 0 E K.size u (([] : List α).length + m.length) ([] ++ ys) := h2
    have hown2 : Own K E 0 w'.heap u (([] : List α) ++ m) := ⟨[] ++ ys, by rw [List.length_append]; exact h2', hr.append hry⟩
    refine .inl ⟨u, w', ?_, ⟨h3.tape, h3.os, h3.output⟩, hext.mod _, ?_⟩
    · simp [execOp, ho, resolve, hev x _ hx, hev y _ hy, invoke, builtin, h1]
    · refine Sep.one (o := ownO K E u m) hown2 (fun k hk => ?_)
      have hk' : u.ownBlock = some k := hk
      rw [e1] at hk'
      simp only [Value.ownBlock, Option.some.injEq] at hk'
      subst hk'
      exact ⟨by rw [e2]; show w.heap.size < (w.heap.push _).size; simp, .inl (Nat.le_refl _)⟩

theorem opS_lit00 {α : Type} {K : Kd α} {t E : TypeId} (ho : o.op = .buildSlice t 0 #[]) (ht : P.underlying t = some (.slice E)) (hinf : (P.info? E).isSome = true) :
    OpV P φ o h (fun v h' => ∃ g, v = .slice (some ⟨g, 0, none⟩) 0 0 ∧ Made h [] (fun _ => [ownO K E (.slice (some ⟨g, 0, none⟩) 0 0) ([] : List α)]) undef h') := by
  intro a w hev hw'
  subst hw'
  obtain ⟨i, hi⟩ := Option.isSome_iff_exists.1 hinf
  refine .inl ⟨.slice (some ⟨w.heap.size, 0, none⟩) 0 0, w.alloc (.cells #[] E), ?_, ⟨rfl, rfl, rfl⟩, w.heap.size, rfl, (ext_push _ _).mod _, ?_⟩
  · have hr0 : Array.range 0 = #[] := by decide
    simp [execOp, ho, Instr.buildSlice, run_underlying ht, sizeOf, typeInfo, hi, Instr.fill, newRow, hr0]
  · refine Sep.one (o := ownO K E _ ([] : List α)) ⟨[], ⟨by simp, .inr ⟨w.heap.size, 0, #[], rfl, Nat.zero_le _, heap_alloc_new w _, Nat.le_refl _, by decide, by simp, by simp⟩⟩, rfl⟩ (fun b hb => ?_)
    simp only [ownO, Value.ownBlock, Option.some.injEq] at hb
    subst hb
    exact ⟨by show w.heap.size < (w.heap.push _).size; simp, .inl (Nat.le_refl _)⟩
end
end Go.H
