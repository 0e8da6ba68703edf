/- Elements of several cells: read, and written in part. -/
import Derived.Test.YtohfgnjmgipehaaBase18
set_option linter.unusedVariables false
namespace Go.H
open Go

theorem RelL.setPart {α : Type} {K : Kd α} {z z' : α} {off : Nat} {u : Value} (hz : ∀ us, K.rel z us → off < us.length ∧ K.rel z' (us.set off u)) :
    ∀ {l : List α} {xs : List Value} (_ : RelL K l xs) {i : Nat}, l[i]? = some z → RelL K (l.set i z') (xs.set (i * K.size + off) u)
  | [], _, _, _, hi => by simp at hi
  | y :: l, _, ⟨us, r, e, h1, h2⟩, 0, hi => by
    simp only [List.getElem?_cons_zero, Option.some.injEq] at hi
    subst hi
    obtain ⟨g1, g2⟩ := hz us h1
    refine ⟨us.set off u, r, ?_, g2, h2⟩
    rw [e, Nat.zero_mul, Nat.zero_add, List.set_append_left _ _ g1]
  | y :: l, _, ⟨us, r, e, h1, h2⟩, i + 1, hi => by
    have hv := K.len y us h1
    refine ⟨us, r.set (i * K.size + off) u, ?_, h1, h2.setPart hz (by simpa using hi)⟩
    rw [e, List.set_append_right _ _ (by rw [hv, Nat.add_mul, Nat.one_mul]; omega), hv, show (i + 1) * K.size + off - K.size = i * K.size + off from by rw [Nat.add_mul, Nat.one_mul]; omega]

/-- a pointer to a part of an element -/
def PtF (sz off : Nat) (u v : Value) (i : Nat) : Prop := ∃ p n c, v = .slice (some p) n c ∧ u = .pointer (some (p.add (i * sz + off)))

section
variable {P : Program} {φ : Fr} {h : Heap} {o : Oper} {α : Type} {K : Kd α} {e : Nat} {v : Value} {l : List α}

theorem SL.spot (H : SL K e h v l) {p : Addr} {n c : Nat} (hv : v = .slice (some p) n c) (hl : l ≠ []) : p.spot = none ∧ n = l.length := by
  obtain ⟨q, c', xs, rfl, hr, hc⟩ := H
  simp only [Value.slice.injEq] at hv
  obtain ⟨rfl, rfl, rfl⟩ := hv
  rcases hc with rfl | ⟨p', hp, hsp, _, _⟩
  · exact absurd rfl hl
  · cases hp
    exact ⟨hsp, rfl⟩

theorem opv_fieldE {s : TypeId} {x : Operand} {f n : Nat} {u : Value} {i : Nat} (ho : o.op = .fieldAddr s x f) (hf : fieldOff P s f = some n) (hx : φ.ev x = some u) (hp : PtI K.size u v i) (H : SL K e h v l) (hl : i < l.length) : OpV P φ o h (fun u' h' => PtF K.size n u' v i ∧ h = h') := by
  obtain ⟨p, m, c, hv, rfl⟩ := hp
  obtain ⟨hsp, _⟩ := H.spot hv (by intro h0; subst h0; simp at hl)
  intro a w hev hw'
  unfold fieldOff at hf
  split at hf
  · rename_i fs hu
    split at hf
    · rename_i fd hfd
      split at hf
      · rename_i ti hi
        split at hf
        · cases hf
        · rename_i hz
          cases hf
          refine .inl ⟨.pointer (some ((p.add (i * K.size)).add fd.offset)), w, ?_, Same.refl w, ⟨p, m, c, hv, by rw [add_add _ _ _ hsp]⟩, hw'.symm⟩
          simp [execOp, ho, hev x _ hx, Instr.fieldAt, Instr.sureAddr, run_underlying hu, hfd, fieldPlace, sizeOf, typeInfo, hi, hz]
      · cases hf
    · cases hf
  · cases hf

theorem opv_loadPart {t : TypeId} {x : Operand} {u r : Value} {i off : Nat} {y : α} (ho : o.op = .load t x) (ht : oneCellT P t = true) (hx : φ.ev x = some u) (hp : PtF K.size off u v i) (H : SL K e h v l) (hy : l[i]? = some y) (hr : ∀ us, K.rel y us → us[off]? = some r) : OpV P φ o h (Det r h) := by
  obtain ⟨q, c, xs, rfl, hrr, hc⟩ := H
  obtain ⟨p, n, c', hv, rfl⟩ := hp
  simp only [Value.slice.injEq] at hv
  obtain ⟨rfl, rfl, rfl⟩ := hv
  rcases hc with rfl | ⟨p', hp, hsp, hb, hcell⟩
  · simp at hy
  cases hp
  obtain ⟨us, hrel, hus⟩ := hrr.2.get hy
  exact opv_load ho ht hx (hcell _ _ (hus off r (hr us hrel)))

theorem opv_loadWhole {t : TypeId} {x : Operand} {u : Value} {us : List Value} {i : Nat} {y : α} (ho : o.op = .load t x) (ht : aggT P t = true) (hn : (P.info? t).map (·.size) = some K.size) (hx : φ.ev x = some u) (hp : PtI K.size u v i) (H : SL K e h v l) (hy : l[i]? = some y) (hr : ∀ vs, K.rel y vs → vs = us) : OpV P φ o h (Det (.agg us.toArray) h) := by
  obtain ⟨q, c, xs, rfl, hrr, hc⟩ := H
  obtain ⟨p, n, c', hv, rfl⟩ := hp
  simp only [Value.slice.injEq] at hv
  obtain ⟨rfl, rfl, rfl⟩ := hv
  rcases hc with rfl | ⟨p', hp, hsp, hb, hcell⟩
  · simp at hy
  cases hp
  obtain ⟨vs, hrel, hus⟩ := hrr.2.get hy
  obtain rfl := hr vs hrel
  obtain ⟨ti, hi, hsz⟩ := Option.map_eq_some_iff.1 hn
  intro a w hev hw'
  refine .inl ⟨_, w, ?_, Same.refl w, rfl, hw'.symm⟩
  have hcells : (loadCells (p.add (i * K.size)) ti.size).run P w = .ok vs.toArray w := by
    have := run_loadCells_list (P := P) (w := w) (p.add (i * K.size)) vs (fun j r hj => by
      rw [add_add _ _ _ hsp, cell_hw hw']
      exact hcell _ _ (hus j r hj))
    rw [K.len y vs hrel] at this
    rw [hsz]
    exact this
  have hlv : (loadVar t (p.add (i * K.size))).run P w = .ok (.agg vs.toArray) w := by
    simp [loadVar, run_isAgg ht, sizeOf, typeInfo, hi, hcells]
  simp [execOp, ho, hev x _ hx, Instr.loadAt, Instr.sureAddr, hlv]

theorem opv_storePart {t E : TypeId} {lo : Nat} {x y : Operand} {p u : Value} {i off : Nat} {z z' : α} (ho : o.op = .store t x y) (ht : (P.info? t).map (·.size) = some 1) (hx : φ.ev x = some p) (hp : PtF K.size off p v i) (hy : φ.ev y = some u) (hu1 : u.oneCell' = true) (hz : l[i]? = some z) (hoff : off < K.size) (hz' : ∀ us, K.rel z us → off < us.length ∧ K.rel z' (us.set off u)) (H : Own K E lo h v l) :
    OpV P φ o h (fun r h' => r = undef ∧ Own K E lo h' v (l.set i z') ∧ Chg (fun b => v.ownBlock = some b) h h' ∧ h'.size = h.size) := by
  intro a w hev hw'
  subst hw'
  obtain ⟨xs, ⟨hl, h2⟩, hr⟩ := H
  have hi := (List.getElem?_eq_some_iff.1 hz).1
  rcases h2 with ⟨rfl, hn⟩ | ⟨g, cap, cur, rfl, hb, hg, hnc, hcm, hcs, htk⟩
  · obtain ⟨q, n, c, hv, _⟩ := hp
    simp at hv
  obtain ⟨q, n, c, hv, rfl⟩ := hp
  simp only [Value.slice.injEq, Option.some.injEq] at hv
  obtain ⟨rfl, rfl, rfl⟩ := hv
  have hc : u.cells = #[u] := by cases u <;> first | rfl | cases hu1
  obtain ⟨info, hinf, hsz⟩ := Option.map_eq_some_iff.1 ht
  have hg' : w.heap[g]? = some (.cells cur E (0, 0)) := hg
  have hmul : (i + 1) * K.size ≤ l.length * K.size := Nat.mul_le_mul_right _ hi
  rw [Nat.add_mul, Nat.one_mul] at hmul
  have hcap : l.length * K.size ≤ cap * K.size := Nat.mul_le_mul_right _ hnc
  obtain ⟨j, hj⟩ : ∃ j, i * K.size + off = j := ⟨_, rfl⟩
  have hjcur : j < cur.size := by rw [hcs]; omega
  have hjx : j < xs.length := by rw [hl]; omega
  have hrun := run_storeCells_at P g j E [u] 0 cur w hg' (by simp; omega) (by simpa using hu1)
  rw [hj] at hx
  refine .inr (.inl ⟨w.setRow g (cur.toList.take j ++ [u] ++ cur.toList.drop (j + 1)).toArray, ?_, ⟨rfl, rfl, rfl⟩, rfl, ?_, ?_, by simp [World.setRow]⟩)
  · simp [execOp, ho, hev x _ hx, hev y _ hy, Instr.storeAt, Instr.sureAddr, storeVar, hc, sizeOf, typeInfo, hinf, hsz, add_lit] at hrun ⊢
    simp [hrun]
  · have e0 : (cur.toList.take j ++ [u] ++ cur.toList.drop (j + 1)) = cur.toList.set j u := by
      rw [List.set_eq_take_append_cons_drop, if_pos (by simpa using hjcur)]; simp
    refine ⟨xs.set j u, ⟨by rw [List.length_set, List.length_set]; exact hl, .inr ⟨g, cap, _, by rw [List.length_set], hb, setRow_heap w g _ _ E _ hg', by rw [List.length_set]; exact hnc, hcm, ?_, ?_⟩⟩, ?_⟩
    · rw [e0]; simpa using hcs
    · rw [e0, List.length_set, ← htk, List.take_set]
    · rw [← hj]; exact hr.setPart hz' hz
  · exact (setRow_chg ..).mono (by rintro k _ rfl; rfl)

/-- a part of an element written: the list -/
theorem opS_storePart {t E : TypeId} {x y : Operand} {p u : Value} {n : Int} {off : Nat} {z z' : α} {l' : List α} (ho : o.op = .store t x y) (ht : (P.info? t).map (·.size) = some 1) (hx : φ.ev x = some p) (hp : PtF K.size off p v n.toNat) (hy : φ.ev y = some u) (hu1 : u.oneCell' = true) (hz : idx l n = some z) (hoff : Nat.blt off K.size = true) (hz' : ∀ us, K.rel z us → off < us.length ∧ K.rel z' (us.set off u)) (hs : setF l n z' = some l') (H : (ownO K E v l).holds h) :
    OpV P φ o h (fun r h' => r = undef ∧ Made h [ownO K E v l] (fun _ => [ownO K E v l']) undef h') := by
  unfold setF at hs
  split at hs
  case isFalse => cases hs
  rename_i hi
  cases hs
  have hoff : off < K.size := Nat.le_of_ble_eq_true hoff
  exact (opv_storePart ho ht hx hp hy hu1 (idx_some hz).2.2 hoff hz' H).mono fun r h' ⟨h2, h3, h4, h5⟩ =>
    ⟨h2, Mod.of_chg h4, Sep.one h3 (fun b hb => ⟨(h3.bounds b hb).2, .inr (by simp [ownO]; exact hb.symm)⟩)⟩
end

theorem kII_set0 {k : IntKind} {z : Int × Int} {m : Int} : ∀ us, (kII k).rel z us → 0 < us.length ∧ (kII k).rel (m, z.2) (us.set 0 (.int k m)) := by
  rintro us rfl
  exact ⟨by simp, rfl⟩
theorem kII_set1 {k : IntKind} {z : Int × Int} {m : Int} : ∀ us, (kII k).rel z us → 1 < us.length ∧ (kII k).rel (z.1, m) (us.set 1 (.int k m)) := by
  rintro us rfl
  exact ⟨by simp, rfl⟩
theorem kII_get0 {k : IntKind} {z : Int × Int} : ∀ us, (kII k).rel z us → us[0]? = some (.int k z.1) := by rintro us rfl; rfl
theorem kII_get1 {k : IntKind} {z : Int × Int} : ∀ us, (kII k).rel z us → us[1]? = some (.int k z.2) := by rintro us rfl; rfl
theorem kII_all {k : IntKind} {z : Int × Int} : ∀ us, (kII k).rel z us → us = [.int k z.1, .int k z.2] := by rintro us rfl; rfl
end Go.H
