/- Lists of one's own lists: a slice whose elements are slices of one's own. -/
import Derived.Test.YtjlnfficehomhaaDoorBase25
set_option linter.unusedVariables false
namespace Go.H
open Go

/-- the inner lists -/
def Inn (E2 : TypeId) (h : Heap) (vs : List Value) (ls : List (List Int)) : Prop :=
  vs.length = ls.length ∧ ∀ (i : Nat) u l, vs[i]? = some u → ls[i]? = some l → Own (kI .i64) E2 0 h u l
/-- blocks that differ -/
def ApB (B : List (Option Nat)) : Prop := B.Pairwise (fun x y => ∀ b, x = some b → y ≠ some b)

theorem Own.same {α : Type} {K : Kd α} {E : TypeId} {h h' : Heap} {v : Value} {l : List α} (H : Own K E 0 h v l) (hs : h.size ≤ h'.size) (hb : ∀ b, v.ownBlock = some b → h'[b]? = h[b]?) : Own K E 0 h' v l :=
  H.chg (S := fun b => v.ownBlock ≠ some b) ⟨hs, fun k _ hk => hb k (Decidable.byContradiction hk : v.ownBlock = some k)⟩ (fun b h1 h2 => h2 h1)

/-- a slice 'v' whose elements are the slices 'vs', which read the lists 'ls'; all blocks its own -/
def ooO (E E2 : TypeId) (v : Value) (vs : List Value) (ls : List (List Int)) : Thing where
  blks := v.ownBlock :: vs.map Value.ownBlock
  holds h := Own kV E 0 h v vs ∧ Inn E2 h vs ls ∧ ApB (v.ownBlock :: vs.map Value.ownBlock)
  stable h h' hs hb H := by
    obtain ⟨h1, ⟨h2, h3⟩, h4⟩ := H
    refine ⟨h1.same hs (fun b e => hb b (by rw [← e]; exact List.mem_cons_self)), ⟨h2, fun i u l hu hl => (h3 i u l hu hl).same hs (fun b e => hb b ?_)⟩, h4⟩
    rw [← e]
    exact List.mem_cons_of_mem _ (List.mem_map_of_mem (List.mem_of_getElem? hu))

theorem ooO.len {E E2 : TypeId} {v : Value} {vs : List Value} {ls : List (List Int)} {h : Heap} (H : (ooO E E2 v vs ls).holds h) : vs.length = ls.length := H.2.1.1
theorem ooO.outer {E E2 : TypeId} {v : Value} {vs : List Value} {ls : List (List Int)} {h : Heap} (H : (ooO E E2 v vs ls).holds h) : SL kV h.size h v vs := Own.read H.1 (Nat.le_refl _)
theorem ooO.one {E E2 : TypeId} {v : Value} {vs : List Value} {ls : List (List Int)} {h : Heap} (H : (ooO E E2 v vs ls).holds h) : v.oneCell' = true := (ooO.outer H).one

/-- a slice of slices that is read only -/
def SLL (e : Nat) (h : Heap) (v : Value) (vs : List Value) (ls : List (List Int)) : Prop :=
  SL kV e h v vs ∧ vs.length = ls.length ∧ ∀ (i : Nat) u l, vs[i]? = some u → ls[i]? = some l → SL (kI .i64) e h u l
theorem ooO.read {E E2 : TypeId} {v : Value} {vs : List Value} {ls : List (List Int)} {h : Heap} (H : (ooO E E2 v vs ls).holds h) : SLL h.size h v vs ls :=
  ⟨ooO.outer H, H.2.1.1, fun i u l hu hl => Own.read (H.2.1.2 i u l hu hl) (Nat.le_refl _)⟩
theorem SLL.nil (e : Nat) (h : Heap) : SLL e h (.slice none 0 0) [] [] := ⟨slNil e h, rfl, by intro i u l hu; simp at hu⟩
theorem SLL.ext {e : Nat} {h h' : Heap} {v : Value} {vs : List Value} {ls : List (List Int)} (H : SLL e h v vs ls) (x : Ext h h') : SLL e h' v vs ls :=
  ⟨H.1.ext x, H.2.1, fun i u l hu hl => (H.2.2 i u l hu hl).ext x⟩
theorem SLL.up {e e' : Nat} {h : Heap} {v : Value} {vs : List Value} {ls : List (List Int)} (H : SLL e h v vs ls) (he : e ≤ e') : SLL e' h v vs ls :=
  ⟨H.1.up he, H.2.1, fun i u l hu hl => (H.2.2 i u l hu hl).up he⟩
theorem SLL.mod {B : List (Option Nat)} {e : Nat} {h0 h : Heap} {v : Value} {vs : List Value} {ls : List (List Int)} (H : SLL e h0 v vs ls) (X : Mod B h0 h) (he : e ≤ h0.size) (hB : ∀ b, some b ∈ B → e ≤ b) : SLL e h v vs ls :=
  ⟨H.1.mod X he hB, H.2.1, fun i u l hu hl => (H.2.2 i u l hu hl).mod X he hB⟩

theorem ownNilB {E : TypeId} {h : Heap} {u : Value} {l : List Int} (H : Own (kI .i64) E 0 h u l) : u.oneCell' = true := (Own.read H (Nat.le_refl _)).one

section
variable {P : Program} {φ : Fr} {h : Heap} {o : Oper} {E E2 : TypeId}

/-- none yet -/
theorem ooO.empty {v : Value} {h : Heap} (H : Own kV E 0 h v []) : (ooO E E2 v [] []).holds h :=
  ⟨H, ⟨rfl, by intro i u l hu; simp at hu⟩, by simp [ApB]⟩
theorem opS_litOO0 {t : TypeId} (ho : o.op = .buildSlice t 0 #[]) (ht : P.underlying t = some (.slice E)) (hinf : (P.info? E).isSome = true) : OpV P φ o h (Made h [] (fun u => [ooO E E2 u [] []])) :=
  (opS_lit0 (K := kV) ho ht hinf).mono fun u h' ⟨M, S⟩ => ⟨M, Sep.one' (ooO.empty (S.holds _ (List.mem_singleton.2 rfl))) (fun b hb => by
    have : some b ∈ (ownO kV E u ([] : List Value)).blks := hb
    exact S.blk _ (List.mem_singleton.2 rfl) b this)⟩

/-- a literal of one list of one's own -/
theorem opS_litOO1 {t : TypeId} {x : Operand} {u : Value} {l : List Int} {n b : Nat} {zz : Value} {B : List (Option Nat)} {m : Nat} {L : List Thing} (ho : o.op = .buildSlice t 1 #[(0, x)]) (ht : P.underlying t = some (.slice E)) (hinf : elemInfo P E = some (zz, n, b)) (hn : n = 1) (hzz : zz.cells.size = 1) (hx : φ.ev x = some u)
    (H : (ownO (kI .i64) E2 u l).holds h) : OpV P φ o h (Made h [ownO (kI .i64) E2 u l] (fun v => [ooO E E2 v [u] [l]])) :=
  (opS_lit1 (K := kV) (z := u) ho ht hinf hn hzz hx rfl ⟨rfl, ownO.one H⟩).mono fun v h' ⟨M, S⟩ => by
    have hv := S.holds _ (List.mem_singleton.2 rfl)
    have hvb := S.blk _ (List.mem_singleton.2 rfl)
    have hu0 : Own (kI .i64) E2 0 h u l := H
    have hub := hu0.bounds
    have hu : Own (kI .i64) E2 0 h' u l := hu0.same M.size (fun b e => M.same b (hub b e).2 (by simp))
    have new : ∀ b, v.ownBlock = some b → h.size ≤ b ∧ b < h'.size := fun b e => by
      have := hvb b (List.mem_singleton.2 e.symm)
      exact ⟨this.2.elim id (fun h => by simp at h), this.1⟩
    refine ⟨⟨M.size, fun b hb _ => M.same b hb (by simp)⟩, Sep.one' ⟨hv, ⟨rfl, ?_⟩, ?_⟩ ?_⟩
    · intro i u' l' e1 e2
      cases i with
      | zero =>
        simp at e1 e2
        subst e1 e2
        exact hu
      | succ i => simp at e1
    · refine List.pairwise_cons.2 ⟨?_, by simp⟩
      intro y hy b e1 e2
      have hy' : y = u.ownBlock := by simpa using hy
      subst hy'
      have := (new b e1).1
      have := (hub b e2).2
      omega
    · intro b hb
      rcases List.mem_cons.1 hb with e | hb
      · have := new b e.symm
        exact ⟨this.2, .inl this.1⟩
      · have e : some b = u.ownBlock := by simpa using hb
        have := (hub b e.symm).2
        exact ⟨Nat.lt_of_lt_of_le this M.size, .inr (by rw [e]; simp [ownO])⟩

theorem idx_other {α β : Type} {l : List α} {m : List β} {n : Int} {y : α} (h : idx l n = some y) (hl : m.length = l.length) : ∃ z, idx m n = some z := by
  obtain ⟨h1, h2, h3⟩ := idx_some h
  have hb : n.toNat < m.length := by omega
  refine ⟨m[n.toNat], ?_⟩
  unfold idx
  rw [if_pos h1, List.getElem?_eq_getElem hb]

theorem opv_lenOO {x : Operand} {t : TypeId} {v : Value} {vs : List Value} {ls : List (List Int)} {e : Nat} (ho : o.op = .call { callee := .builtin .len, args := #[x], argTypes := #[t] }) (ht : P.underlying t = some (.slice E)) (hx : φ.ev x = some v) (H : SLL e h v vs ls) : OpV P φ o h (Det (.int .i64 (ls.length : Int)) h) := by
  rw [← H.2.1]
  exact opv_len ho ht hx H.1

theorem opv_indexOO {t : TypeId} {x i : Operand} {k : IntKind} {n : Int} {v : Value} {vs : List Value} {ls : List (List Int)} {l : List Int} {e : Nat} (ho : o.op = .indexAddr t x i) (ht : P.underlying t = some (.slice E)) (hs : (P.info? E).map (·.size) = some kV.size) (hx : φ.ev x = some v) (hi : φ.ev i = some (.int k n)) (H : SLL e h v vs ls) (hn : idx ls n = some l) :
    OpV P φ o h (fun u h' => PtI 1 u v n.toNat ∧ h = h') := by
  obtain ⟨z, hz⟩ := idx_other hn H.2.1
  exact opv_index (K := kV) ho ht hs hx hi H.1 hz

/-- an inner list, loaded: what it reads, and which it is -/
theorem opx_loadOO {t : TypeId} {x : Operand} {u : Value} {n : Int} {v : Value} {vs : List Value} {ls : List (List Int)} {l : List Int} {e : Nat} (ho : o.op = .load t x) (ht : oneCellT P t = true) (hx : φ.ev x = some u) (hp : PtI 1 u v n.toNat) (H : SLL e h v vs ls) (hy : idx ls n = some l) :
    ∃ r, (SL (kI .i64) e h r l ∧ vs[n.toNat]? = some r) ∧ OpX P φ o h r := by
  obtain ⟨z, hz⟩ := idx_other hy H.2.1
  have hz' := (idx_some hz).2.2
  obtain ⟨r, hr, hX⟩ := opx_loadE (K := kV) ho ht rfl hx hp H.1 hz'
  obtain ⟨e1, _⟩ := hr
  have e2 : r = z := by simpa using e1
  subst e2
  exact ⟨r, ⟨H.2.2 _ _ _ hz' (idx_some hy).2.2, hz'⟩, hX⟩
theorem opv_loadOO {t : TypeId} {x : Operand} {u : Value} {n : Int} {v : Value} {vs : List Value} {ls : List (List Int)} {l : List Int} {e : Nat} (ho : o.op = .load t x) (ht : oneCellT P t = true) (hx : φ.ev x = some u) (hp : PtI 1 u v n.toNat) (H : SLL e h v vs ls) (hy : idx ls n = some l) :
    OpV P φ o h (fun r h' => (SL (kI .i64) e h r l ∧ vs[n.toNat]? = some r) ∧ h = h') := by
  obtain ⟨r, hr, hX⟩ := opx_loadOO ho ht hx hp H hy
  exact hX.det.mono fun u h' ⟨e1, e2⟩ => ⟨by rw [← e1]; exact hr, e2⟩

theorem apb_cons {v : Value} {vs : List Value} (h : ApB (v.ownBlock :: vs.map Value.ownBlock)) {u : Value} (hu : u ∈ vs) {b : Nat} (e1 : v.ownBlock = some b) : u.ownBlock ≠ some b :=
  (List.pairwise_cons.1 h).1 _ (List.mem_map_of_mem hu) b e1

/-- the inner lists' blocks lie within the heap -/
theorem Inn.lt {h : Heap} {vs : List Value} {ls : List (List Int)} (H : Inn E2 h vs ls) {u : Value} (hu : u ∈ vs) {b : Nat} (e : u.ownBlock = some b) : b < h.size := by
  obtain ⟨i, hi, rfl⟩ := List.getElem_of_mem hu
  have hl : i < ls.length := by rw [← H.1]; exact hi
  exact ((H.2 i _ _ (List.getElem?_eq_getElem hi) (List.getElem?_eq_getElem hl)).bounds b e).2
theorem Inn.same {h h' : Heap} {vs : List Value} {ls : List (List Int)} (H : Inn E2 h vs ls) (hs : h.size ≤ h'.size) (hb : ∀ u ∈ vs, ∀ b, u.ownBlock = some b → h'[b]? = h[b]?) : Inn E2 h' vs ls :=
  ⟨H.1, fun i u l hu hl => (H.2 i u l hu hl).same hs (hb u (List.mem_of_getElem? hu))⟩
theorem Inn.append {h : Heap} {vs ws : List Value} {ls ms : List (List Int)} (H : Inn E2 h vs ls) (K : Inn E2 h ws ms) : Inn E2 h (vs ++ ws) (ls ++ ms) := by
  refine ⟨by rw [List.length_append, List.length_append, H.1, K.1], fun i u l hu hl => ?_⟩
  by_cases hi : i < vs.length
  · rw [List.getElem?_append_left hi] at hu
    rw [List.getElem?_append_left (by rw [← H.1]; exact hi)] at hl
    exact H.2 i u l hu hl
  · rw [List.getElem?_append_right (by omega)] at hu
    rw [List.getElem?_append_right (by rw [← H.1]; omega), ← H.1] at hl
    exact K.2 _ u l hu hl

/-- lists of one's own lists, joined: the second one's elements go over -/
theorem opS_appendOO {t : TypeId} {x y : Operand} {v w zz : Value} {vs ws : List Value} {ls ms : List (List Int)} {n b m : Nat} {B : List (Option Nat)} {L : List Thing} (ho : o.op = .call { callee := .builtin .append, args := #[x, y], argTypes := #[t, t] }) (ht : P.underlying t = some (.slice E)) (hinf : elemInfo P E = some (zz, n, b)) (hn : n = 1) (hzz : zz.cells.size = n)
    (hx : φ.ev x = some v) (hy : φ.ev y = some w) (S : Sep B m h (ooO E E2 v vs ls :: ooO E E2 w ws ms :: L)) (hb : 0 < b) (hb2 : b ≤ 64) (hfit : ls.length + ms.length ≤ 1000000000) :
    OpV P φ o h (Made h [ooO E E2 v vs ls, ooO E E2 w ws ms] (fun u => [ooO E E2 u (vs ++ ws) (ls ++ ms)])) := by
  have H1 : (ooO E E2 v vs ls).holds h := S.holds _ List.mem_cons_self
  have H2 : (ooO E E2 w ws ms).holds h := S.holds _ (List.mem_cons_of_mem _ List.mem_cons_self)
  have hap : ∀ b, some b ∈ (ooO E E2 v vs ls).blks → some b ∉ (ooO E E2 w ws ms).blks := (List.pairwise_cons.1 S.apart).1 _ List.mem_cons_self
  refine (opS_append (K := kV) (l := vs) (m := ws) ho ht hinf hn hzz hx hy H1.1 (ooO.outer H2) hb hb2 (by rw [ooO.len H1, ooO.len H2]; exact hfit)).mono fun u h' ⟨M, T⟩ => ?_
  have M' : ∀ b, b < h.size → v.ownBlock ≠ some b → h'[b]? = h[b]? := fun b hb hne => M.same b hb (by
    intro hm
    have : some b = v.ownBlock := by simpa [ownO] using hm
    exact hne this.symm)
  have hT := T.blk _ (List.mem_singleton.2 rfl)
  have i1 : Inn E2 h' vs ls := H1.2.1.same M.size fun x hx b e => M' b (H1.2.1.lt hx e) fun e2 => apb_cons H1.2.2 hx e2 e
  have vIn : ∀ b, v.ownBlock = some b → some b ∈ (ooO E E2 v vs ls).blks := fun b e => by rw [← e]; exact List.mem_cons_self
  have wIn : ∀ x ∈ ws, ∀ b, x.ownBlock = some b → some b ∈ (ooO E E2 w ws ms).blks := fun x hx b e => by rw [← e]; exact List.mem_cons_of_mem _ (List.mem_map_of_mem hx)
  have vsIn : ∀ x ∈ vs, ∀ b, x.ownBlock = some b → some b ∈ (ooO E E2 v vs ls).blks := fun x hx b e => by rw [← e]; exact List.mem_cons_of_mem _ (List.mem_map_of_mem hx)
  have i2 : Inn E2 h' ws ms := H2.2.1.same M.size fun x hx b e => M' b (H2.2.1.lt hx e) fun e2 => hap b (vIn b e2) (wIn x hx b e)
  have uB : ∀ b, u.ownBlock = some b → b < h'.size ∧ (h.size ≤ b ∨ v.ownBlock = some b) := fun b e => by
    obtain ⟨p, q⟩ := hT b (List.mem_singleton.2 e.symm)
    refine ⟨p, q.imp id fun hm => ?_⟩
    have : some b = v.ownBlock := by simpa [ownO] using hm
    exact this.symm
  refine ⟨⟨M.size, fun b hb hne => M' b hb fun e => hne (by simp [ooO, e])⟩, Sep.one' ⟨T.holds _ (List.mem_singleton.2 rfl), i1.append i2, ?_⟩ ?_⟩
  · refine List.pairwise_cons.2 ⟨?_, ?_⟩
    · intro y hy b e1 e2
      obtain ⟨x, hx, rfl⟩ := List.mem_map.1 hy
      rcases (uB b e1).2 with h1 | h1
      · rcases List.mem_append.1 hx with hx | hx
        · have := H1.2.1.lt hx e2; omega
        · have := H2.2.1.lt hx e2; omega
      · rcases List.mem_append.1 hx with hx | hx
        · exact apb_cons H1.2.2 hx h1 e2
        · exact hap b (vIn b h1) (wIn x hx b e2)
    · rw [List.map_append]
      refine List.pairwise_append.2 ⟨(List.pairwise_cons.1 H1.2.2).2, (List.pairwise_cons.1 H2.2.2).2, fun p hp q hq b e1 e2 => ?_⟩
      obtain ⟨x, hx, rfl⟩ := List.mem_map.1 hp
      obtain ⟨y, hy, rfl⟩ := List.mem_map.1 hq
      exact hap b (vsIn x hx b e1) (wIn y hy b e2)
  · intro b hb
    rcases List.mem_cons.1 hb with e | hb
    · obtain ⟨p, q⟩ := uB b e.symm
      exact ⟨p, q.imp id fun e => by simp [ooO, e]⟩
    · obtain ⟨x, hx, e⟩ := List.mem_map.1 hb
      rcases List.mem_append.1 hx with hx | hx
      · exact ⟨Nat.lt_of_lt_of_le (H1.2.1.lt hx e) M.size, .inr (List.mem_flatMap.2 ⟨_, List.mem_cons_self, vsIn x hx b e⟩)⟩
      · exact ⟨Nat.lt_of_lt_of_le (H2.2.1.lt hx e) M.size, .inr (List.mem_flatMap.2 ⟨_, List.mem_cons_of_mem _ List.mem_cons_self, wIn x hx b e⟩)⟩

/-- one of the inner lists, told as one's own -/
theorem Sep.inner {v : Value} {vs : List Value} {ls : List (List Int)} {i : Nat} {u : Value} {l : List Int} {B : List (Option Nat)} {m : Nat} {L : List Thing} (S : Sep B m h (ooO E E2 v vs ls :: L)) (hu : vs[i]? = some u) (hl : ls[i]? = some l) (k : Nat) : Sep [u.ownBlock] k h [ownO (kI .i64) E2 u l] := by
  have H := S.holds _ List.mem_cons_self
  have hi := H.2.1.2 i u l hu hl
  exact Sep.one hi fun b e => ⟨(hi.bounds b e).2, .inr (by rw [e]; exact List.mem_singleton.2 rfl)⟩
/-- it is turned: the whole is as it was, but for this one -/
theorem Sep.innerTurn {h' : Heap} {v : Value} {vs : List Value} {ls : List (List Int)} {i : Nat} {u : Value} {l l' : List Int} {B : List (Option Nat)} {m : Nat} {L : List Thing} (S : Sep B m h (ooO E E2 v vs ls :: L)) (hu : vs[i]? = some u) (hl : ls[i]? = some l)
    (M : Mod [u.ownBlock] h h') (T : Sep [u.ownBlock] h.size h' [ownO (kI .i64) E2 u l']) : Mod ([ooO E E2 v vs ls].flatMap (·.blks)) h h' ∧ Sep ([ooO E E2 v vs ls].flatMap (·.blks)) h.size h' [ooO E E2 v vs (ls.set i l')] := by
  have H : (ooO E E2 v vs ls).holds h := S.holds _ List.mem_cons_self
  have hmem := List.mem_of_getElem? hu
  have uIn : ∀ b, u.ownBlock = some b → some b ∈ (ooO E E2 v vs ls).blks := fun b e => by rw [← e]; exact List.mem_cons_of_mem _ (List.mem_map_of_mem hmem)
  have M' : ∀ b, b < h.size → u.ownBlock ≠ some b → h'[b]? = h[b]? := fun b hb hne => M.same b hb fun hm => hne (List.mem_singleton.1 hm).symm
  have hlen := H.2.1.1
  have hil : i < ls.length := (List.getElem?_eq_some_iff.1 hl).1
  have hiv : i < vs.length := by omega
  have hp := List.pairwise_iff_getElem.1 (List.pairwise_cons.1 H.2.2).2
  have inn : Inn E2 h' vs (ls.set i l') := by
    refine ⟨by rw [List.length_set]; exact hlen, fun j x y hx hy => ?_⟩
    by_cases hj : j = i
    · subst hj
      rw [hu] at hx
      rw [List.getElem?_set_self hil] at hy
      cases hx; cases hy
      exact T.holds _ (List.mem_singleton.2 rfl)
    · rw [List.getElem?_set_ne (Ne.symm hj)] at hy
      have hx' := List.getElem?_eq_some_iff.1 hx
      have hu' := List.getElem?_eq_some_iff.1 hu
      obtain ⟨hjl, ex⟩ := hx'
      obtain ⟨_, eu⟩ := hu'
      refine (H.2.1.2 j x y hx hy).same M.size fun b e => M' b (H.2.1.lt (List.mem_of_getElem? hx) e) fun e2 => ?_
      rcases Nat.lt_or_gt_of_ne hj with hlt | hlt
      · have := hp j i (by simpa using hjl) (by simpa using hiv) hlt b
        simp only [List.getElem_map, ex, eu] at this
        exact this e e2
      · have := hp i j (by simpa using hiv) (by simpa using hjl) hlt b
        simp only [List.getElem_map, ex, eu] at this
        exact this e2 e
  refine ⟨⟨M.size, fun b hb hne => M' b hb fun e => hne (List.mem_flatMap.2 ⟨_, List.mem_singleton.2 rfl, uIn b e⟩)⟩, Sep.one' ⟨?_, inn, H.2.2⟩ fun b hb => ?_⟩
  · exact H.1.same M.size fun b e => M' b (H.1.bounds b e).2 fun e2 => apb_cons H.2.2 hmem e e2
  · have := S.blk _ List.mem_cons_self b hb
    exact ⟨Nat.lt_of_lt_of_le this.1 M.size, .inr (List.mem_flatMap.2 ⟨_, List.mem_singleton.2 rfl, hb⟩)⟩
end

/-- a slice of slices of one's own: its value, and those of its elements -/
structure OO where
  v : Value
  vs : List Value
def ooV (w : OO) : Value := w.v
abbrev ooW (E E2 : TypeId) (w : OO) (ls : List (List Int)) : Thing := ooO E E2 w.v w.vs ls
def ooNil : OO := ⟨.slice none 0 0, []⟩

theorem Sep.innerB {E E2 : TypeId} {h : Heap} {v : Value} {vs : List Value} {ls : List (List Int)} {i : Nat} {u : Value} {l : List Int} {B : List (Option Nat)} {m : Nat} {L : List Thing} (S : Sep B m h (ooO E E2 v vs ls :: L)) (hu : vs[i]? = some u) (hl : ls[i]? = some l) : Sep B m h [ownO (kI .i64) E2 u l] := by
  have H := S.holds _ List.mem_cons_self
  have hi := H.2.1.2 i u l hu hl
  refine Sep.one hi fun b e => ?_
  exact S.blk _ List.mem_cons_self b (by rw [← e]; exact List.mem_cons_of_mem _ (List.mem_map_of_mem (List.mem_of_getElem? hu)))
theorem Sep.addNilOO {E E2 : TypeId} {B : List (Option Nat)} {n : Nat} {h : Heap} {L : List Thing} (S : Sep B n h L) : Sep B n h (ooW E E2 ooNil [] :: L) := by
  refine ⟨?_, ?_, List.pairwise_cons.2 ⟨?_, S.apart⟩⟩
  · intro o ho
    rcases List.mem_cons.1 ho with rfl | ho
    · exact ooO.empty (ownNil h)
    · exact S.holds o ho
  · intro o ho b hb
    rcases List.mem_cons.1 ho with rfl | ho
    · have : some b ∈ [(none : Option Nat)] := hb
      simp at this
    · exact S.blk o ho b hb
  · intro o _ b hb
    have : some b ∈ [(none : Option Nat)] := hb
    simp at this

theorem opx_indexOO {P : Program} {φ : Fr} {h : Heap} {o : Oper} {E : TypeId} {t : TypeId} {x i : Operand} {k : IntKind} {n : Int} {v : Value} {vs : List Value} {ls : List (List Int)} {l : List Int} {e : Nat} (ho : o.op = .indexAddr t x i) (ht : P.underlying t = some (.slice E)) (hs : (P.info? E).map (·.size) = some kV.size) (hx : φ.ev x = some v) (hi : φ.ev i = some (.int k n)) (H : SLL e h v vs ls) (hn : idx ls n = some l) :
    ∃ u, PtI 1 u v n.toNat ∧ OpX P φ o h u := by
  obtain ⟨z, hz⟩ := idx_other hn H.2.1
  exact opx_indexP (K := kV) ho ht hs hx hi H.1 hz
end Go.H
