/- Stores, appends, makes, cuts, copies. -/
import Derived.Test.YtohfgnjmgipehaaBase6
namespace Go.H
open Go

theorem setRow_chg (w : World) (g : Nat) (cs : Array Value) : Chg (fun b => b = g) w.heap (w.setRow g cs).heap :=
  ⟨by simp [World.setRow], fun b _ hb => setRow_other w g b cs hb⟩

theorem setCell_row (w : World) (g o : Nat) (cur : Array Value) (t : TypeId) (v : Value) (hg : w.heap[g]? = some (.cells cur t (0, 0))) :
    (w.setCell ⟨g, o, none⟩ v) = w.setRow g (cur.setIfInBounds o v) := setCell_eq_setRow w g o cur t (0, 0) v hg

/-- told bytes of an element type -/
def elemInfo (P : Program) (E : TypeId) : Option (Value × Nat × Nat) := (P.info? E).bind fun i => i.zero.map fun z => (z, i.size, i.bytes)

theorem elemInfo_some {P : Program} {E : TypeId} {z : Value} {n b : Nat} (h : elemInfo P E = some (z, n, b)) : ∃ i, P.info? E = some i ∧ i.zero = some z ∧ i.size = n ∧ i.bytes = b := by
  unfold elemInfo at h
  obtain ⟨i, hi, h2⟩ := Option.bind_eq_some_iff.1 h
  obtain ⟨z', hz, h3⟩ := Option.map_eq_some_iff.1 h2
  cases h3
  exact ⟨i, hi, hz, rfl, rfl⟩

section
variable {P : Program} {φ : Fr} {h : Heap} {o : Oper} {α : Type} {K : Kd α} {e : Nat} {v : Value} {l : List α}

/-- behind a store into box b -/
def Stored (h : Heap) (b : Nat) (cs : List Value) (u : Value) (h' : Heap) : Prop := u = undef ∧ Chg (fun k => k = b) h h' ∧ h'.size = h.size ∧ Bx h' b cs

theorem opv_storeB {t : TypeId} {x y : Operand} {b k : Nat} {cs : List Value} {u : Value} (ho : o.op = .store t x y) (ht : (P.info? t).map (·.size) = some 1) (hx : φ.ev x = some (.pointer (some ⟨b, k, none⟩))) (hy : φ.ev y = some u) (hu : u.oneCell' = true) (H : Bx h b cs) (hk : k < cs.length) :
    OpV P φ o h (Stored h b (cs.set k u)) := by
  intro a w hev hw'
  subst hw'
  obtain ⟨T, hT⟩ := H
  obtain ⟨i, hi, hsz⟩ := Option.map_eq_some_iff.1 ht
  have hc : u.cells = #[u] := by cases u <;> first | rfl | cases hu
  have hrun := run_storeCells_at P b k T [u] 0 cs.toArray w hT (by simp; omega) (by simpa using hu)
  refine .inr (.inl ⟨w.setRow b (cs.take k ++ [u] ++ cs.drop (k + 1)).toArray, ?_, ⟨rfl, rfl, rfl⟩, ?_⟩)
  · simp [execOp, ho, hev x _ hx, hev y _ hy, Instr.storeAt, Instr.sureAddr, storeVar, hc, sizeOf, typeInfo, hi, hsz] at hrun ⊢
    simp [hrun]
  · refine ⟨rfl, setRow_chg .., by simp [World.setRow], T, ?_⟩
    rw [setRow_heap w b _ _ T _ hT]
    simp [List.set_eq_take_append_cons_drop, hk]

theorem opv_storeA {t : TypeId} {x y : Operand} {b n : Nat} {cs us : List Value} (ho : o.op = .store t x y) (ht : (P.info? t).map (·.size) = some n) (hx : φ.ev x = some (.pointer (some ⟨b, 0, none⟩))) (hy : φ.ev y = some (.agg us.toArray)) (hu : us.all (·.oneCell') = true) (H : Bx h b cs) (hk : cs.length = n) (hk' : us.length = n) :
    OpV P φ o h (Stored h b us) := by
  intro a w hev hw'
  subst hw'
  obtain ⟨T, hT⟩ := H
  obtain ⟨i, hi, hsz⟩ := Option.map_eq_some_iff.1 ht
  have hrun := run_storeCells_at P b 0 T us 0 cs.toArray w hT (by simp; omega) (by simpa using hu)
  refine .inr (.inl ⟨w.setRow b us.toArray, ?_, ⟨rfl, rfl, rfl⟩, rfl, setRow_chg .., by simp [World.setRow], T, setRow_heap w b _ _ T _ hT⟩)
  have e1 : us.length = i.size := by omega
  have e2 : cs.drop us.length = [] := List.drop_of_length_le (by omega)
  simp [execOp, ho, hev x _ hx, hev y _ hy, Instr.storeAt, Instr.sureAddr, storeVar, Value.cells, sizeOf, typeInfo, hi, e2] at hrun ⊢
  simp [hrun, ← e1]

/-- a store into an element of a row of the call's own -/
theorem opv_storeE {t E : TypeId} {lo : Nat} {x y : Operand} {p u : Value} {i : Nat} {z : α} (ho : o.op = .store t x y) (ht : (P.info? t).map (·.size) = some 1) (h1 : K.size = 1) (hx : φ.ev x = some p) (hp : PtI K.size p v i) (hy : φ.ev y = some u) (hz : K.rel z [u]) (hi : i < l.length) (H : Own K E lo h v l) :
    OpV P φ o h (fun r h' => r = undef ∧ Own K E lo h' v (l.set i z) ∧ Chg (fun b => v.ownBlock = some b) h h' ∧ h'.size = h.size) := by
  intro a w hev hw'
  subst hw'
  obtain ⟨xs, ⟨hl, h2⟩, hr⟩ := H
  rcases h2 with ⟨rfl, hn⟩ | ⟨g, cap, cur, rfl, hb, hg, hnc, hcm, hcs, htk⟩
  · obtain ⟨q, n, c, hv, _⟩ := hp
    simp at hv
  obtain ⟨q, n, c, hv, rfl⟩ := hp
  simp only [Value.slice.injEq, Option.some.injEq] at hv
  obtain ⟨rfl, rfl, rfl⟩ := hv
  have hu1 : u.oneCell' = true := K.one z [u] hz u (by simp)
  have hc : u.cells = #[u] := by cases u <;> first | rfl | cases hu1
  obtain ⟨info, hinf, hsz⟩ := Option.map_eq_some_iff.1 ht
  have hg' : w.heap[g]? = some (.cells cur E (0, 0)) := hg
  have hicur : i < cur.size := by rw [hcs, h1]; omega
  have hrun := run_storeCells_at P g i E [u] 0 cur w hg' (by simp; omega) (by simpa using hu1)
  refine .inr (.inl ⟨w.setRow g (cur.toList.take i ++ [u] ++ cur.toList.drop (i + 1)).toArray, ?_, ⟨rfl, rfl, rfl⟩, rfl, ?_, ?_, by simp [World.setRow]⟩)
  · simp [execOp, ho, hev x _ hx, hev y _ hy, Instr.storeAt, Instr.sureAddr, storeVar, hc, sizeOf, typeInfo, hinf, hsz, add_lit, h1] at hrun ⊢
    simp [hrun]
  · have hxl : xs.length = l.length := by rw [hl, h1, Nat.mul_one]
    refine ⟨xs.set i u, ⟨by rw [List.length_set, List.length_set]; exact hl, .inr ⟨g, cap, _, by rw [List.length_set], hb, setRow_heap w g _ _ E _ hg', by rw [List.length_set]; exact hnc, hcm, ?_, ?_⟩⟩, ?_⟩
    · have : cur.toList.length = cur.size := rfl
      simp only [List.size_toArray, List.length_append, List.length_take, List.length_drop, List.length_cons, List.length_nil]
      omega
    · have e0 : (cur.toList.take i ++ [u] ++ cur.toList.drop (i + 1)) = cur.toList.set i u := by
        rw [List.set_eq_take_append_cons_drop, if_pos (by simpa using hicur)]; simp
      rw [e0, List.length_set, ← htk]
      simp only [h1, Nat.mul_one]
      rw [List.take_set]
    · have := hr.set hi hz
      rw [h1] at this
      simp only [Nat.mul_one] at this
      rw [List.set_eq_take_append_cons_drop (l := xs), if_pos (by omega)]
      simpa using this
  · exact (setRow_chg ..).mono (by rintro k _ rfl; rfl)

/-- []T{x} and its kin: a new row of just these cells -/
theorem opv_lit1 {t E : TypeId} {x : Operand} {u : Value} {n b : Nat} {zz : Value} (ho : o.op = .buildSlice t 1 #[(0, x)]) (ht : P.underlying t = some (.slice E)) (hinf : elemInfo P E = some (zz, n, b)) (hn : n = 1) (hzz : zz.cells.size = 1) (hx : φ.ev x = some u) (hu : u.oneCell' = true) :
    OpV P φ o h (fun v h' => ∃ g, v = .slice (some ⟨g, 0, none⟩) 1 1 ∧ g = h.size ∧ Ext h h' ∧ h'.size = h.size + 1 ∧ h'[g]? = some (.cells #[u] E (0, 0))) := by
  intro a w hev hw'
  subst hw'
  obtain ⟨i, hi, hz, hs, _⟩ := elemInfo_some hinf
  subst hn
  have hc : u.cells = #[u] := by cases u <;> first | rfl | cases hu
  refine .inl ⟨.slice (some ⟨w.heap.size, 0, none⟩) 1 1, w.alloc (.cells #[u] E), ?_, ⟨rfl, rfl, rfl⟩, w.heap.size, rfl, rfl, ext_push _ _, by simp, heap_alloc_new w _⟩
  have hzs : ∃ q, zz.cells = #[q] := by
    rcases hq : zz.cells with ⟨lq⟩
    rw [hq] at hzz
    obtain ⟨q, rfl⟩ := List.length_eq_one_iff.1 (by simpa using hzz)
    exact ⟨q, rfl⟩
  obtain ⟨q, hq⟩ := hzs
  have hr1 : Array.range 1 = #[0] := by decide
  simp [execOp, ho, hev x _ hx, Instr.buildSlice, run_underlying ht, sizeOf, typeInfo, hi, hs, zeroValue, hz, hq, hr1, Instr.fill, hc, newRow]

theorem opv_lit0 {t E : TypeId} {lo : Nat} (ho : o.op = .buildSlice t 0 #[]) (ht : P.underlying t = some (.slice E)) (hinf : (P.info? E).isSome = true) (hlo : lo ≤ h.size) :
    OpV P φ o h (fun v h' => Own K E lo h' v ([] : List α) ∧ Ext h h' ∧ h'.size = h.size + 1 ∧ ∀ b, v.ownBlock = some b → h.size ≤ b) := by
  intro a w hev hw'
  subst hw'
  obtain ⟨i, hi⟩ := Option.isSome_iff_exists.1 hinf
  refine .inl ⟨.slice (some ⟨w.heap.size, 0, none⟩) 0 0, w.alloc (.cells #[] E), ?_, ⟨rfl, rfl, rfl⟩, ⟨[], ?_, rfl⟩, ext_push _ _, by simp, fun b hb => by simp [Value.ownBlock] at hb; omega⟩
  · have hr0 : Array.range 0 = #[] := by decide
    simp [execOp, ho, Instr.buildSlice, run_underlying ht, sizeOf, typeInfo, hi, Instr.fill, newRow, hr0]
  · exact ⟨by simp, .inr ⟨w.heap.size, 0, #[], rfl, hlo, heap_alloc_new w _, Nat.le_refl _, by decide, by simp, by simp⟩⟩

theorem grown_heap {w w' : World} {row : Option Nat} (g : w.grownBy w' row) : Chg (fun b => row = some b) w.heap w'.heap :=
  ⟨g.size, fun b hb hn => g.block b hb fun e => hn e.symm⟩

/-- append onto a row of the call's own -/
theorem opv_append {t E : TypeId} {x y : Operand} {lo e : Nat} {vy zz : Value} {m : List α} {n b : Nat} (ho : o.op = .call { callee := .builtin .append, args := #[x, y], argTypes := #[t, t] }) (ht : P.underlying t = some (.slice E)) (hinf : elemInfo P E = some (zz, n, b)) (hn : n = K.size) (hzz : zz.cells.size = n)
    (hx : φ.ev x = some v) (hy : φ.ev y = some vy) (H : Own K E lo h v l) (hlo : lo ≤ h.size) (HY : SL K e h vy m) (hfit : (l.length + m.length) * b ≤ 140737488355328) (hb : 0 < b) :
    OpV P φ o h (fun u h' => Own K E lo h' u (l ++ m) ∧ Chg (fun k => v.ownBlock = some k) h h' ∧ ∀ k, u.ownBlock = some k → v.ownBlock = some k ∨ h.size ≤ k) := by
  intro a w hev hw'
  subst hw'
  obtain ⟨i, hi, hz, hs, hby⟩ := elemInfo_some hinf
  obtain ⟨xs, hown, hr⟩ := H
  obtain ⟨ay, c, ys, rfl, ⟨hmc, hry⟩, hc⟩ := HY
  have hml : l.length + m.length ≤ maxLen := by
    have : l.length + m.length ≤ (l.length + m.length) * b := Nat.le_mul_of_pos_right _ hb
    simp only [maxLen]; omega
  have hlen : (xs ++ ys).length = (l.length + m.length) * K.size := by rw [List.length_append, hr.length, hry.length, Nat.add_mul]
  -- the run, by its three ways
  have key : ∃ u w', (Builtin.append_ #[t, t] o.type #[v, .slice ay m.length c]).run P w = .ok u w' ∧ (hw w'.heap).ownsRow lo E K.size u (l.length + m.length) (xs ++ ys) ∧ Chg (fun k => v.ownBlock = some k) w.heap w'.heap ∧ Same w w' ∧
      ∀ k, u.ownBlock = some k → v.ownBlock = some k ∨ w.heap.size ≤ k := by
    rcases hc with rfl | ⟨p, rfl, hsp, hpb, hcell⟩
    · -- nothing appended
      have hys : ys = [] := by simpa [RelL] using hry
      subst hys
      refine ⟨v, w, ?_, by simpa using hown, Chg.refl _ _, Same.refl w, fun k hk => .inl hk⟩
      have hfc : (Builtin.firstCells i.size 0 (.slice ay 0 c)).run P w = .ok #[] w := by cases ay <;> simp [Builtin.firstCells, loadCells, loadCellsFrom]
      rcases hown.2 with ⟨rfl, hn0⟩ | ⟨g, cap, cur, rfl, _, hg, hnc, _⟩
      · simp [Builtin.append_, run_underlying ht, sizeOf, typeInfo, hi, Builtin.lenOf, hfc]
      · simp [Builtin.append_, run_underlying ht, sizeOf, typeInfo, hi, Builtin.lenOf, hfc, hnc, storeCells]
    · have hnews : ∀ j u, ys[j]? = some u → w.cell? (p.add j) = some u := hcell
      have hyl : ys.length = m.length * i.size := by rw [hry.length, hs, hn]
      obtain ⟨u, w', h1, h2, h3, h4⟩ := run_append_own (P := P) w lo t o.type E i zz K.size b ht hi hz (by omega) hby (by omega) K.pos v l.length xs hown p m.length c ys (by rw [hry.length]) hnews hry.one hml hfit hlo
      refine ⟨u, w', h1, h2, grown_heap h3, ⟨h3.tape, h3.os, h3.output⟩, fun k hk => ?_⟩
      -- where the result lies
      rcases hown.2 with ⟨rfl, hn0⟩ | ⟨g, cap, cur, rfl, hbg, hg, hnc, hcm, hcs, htk⟩
      · by_cases hm0 : m.length = 0
        · have := h4.2 ⟨rfl, hm0⟩
          rw [this] at hk
          simp [Value.ownBlock] at hk
        · have hrr := run_append_nil (P := P) w t o.type E i zz ht hi hz p m.length c ys hyl hnews (by omega) (by simp only [maxLen] at hml; omega) (by
            have : m.length * b ≤ (l.length + m.length) * b := Nat.mul_le_mul_right _ (by omega)
            rw [hby]; omega)
          rw [h1] at hrr
          simp only [Result.ok.injEq] at hrr
          rw [hrr.1] at hk
          simp only [Value.ownBlock, Option.some.injEq] at hk
          exact .inr (by omega)
      · by_cases hroom : l.length + m.length ≤ cap
        · have hfit' : l.length * i.size + ys.length ≤ cur.size := by rw [hyl, hcs, hs, ← hn, ← Nat.add_mul]; exact Nat.mul_le_mul_right _ hroom
          have hrr := run_append_room (P := P) w t o.type E i ht hi g l.length cap cur hg p m.length c ys hyl hnews hry.one hroom hfit'
          rw [h1] at hrr
          simp only [Result.ok.injEq] at hrr
          rw [hrr.1] at hk
          exact .inl hk
        · have holds : ∀ j u, xs[j]? = some u → w.cell? ((⟨g, 0, none⟩ : Addr).add j) = some u := World.ownsRow.cells (w := w) hown (g := g) rfl
          have hrr := run_append_grow (P := P) w t o.type E i zz ht hi hz ⟨g, 0, none⟩ l.length cap xs (by rw [hr.length, hs, hn]) holds p m.length c ys hyl hnews (by omega) (by simp only [maxLen] at hml; omega) (growslice_fits (by omega) (by rw [hby]; exact hfit))
          rw [h1] at hrr
          simp only [Result.ok.injEq] at hrr
          rw [hrr.1] at hk
          simp only [Value.ownBlock, Option.some.injEq] at hk
          exact .inr (by omega)
  obtain ⟨u, w', h1, h2, h3, h4, h5⟩ := key
  refine .inl ⟨u, w', ?_, h4, ⟨xs ++ ys, by rw [List.length_append]; exact h2, hr.append hry⟩, h3, h5⟩
  simp [execOp, ho, resolve, hev x _ hx, hev y _ hy, invoke, builtin, h1]
end
end Go.H
