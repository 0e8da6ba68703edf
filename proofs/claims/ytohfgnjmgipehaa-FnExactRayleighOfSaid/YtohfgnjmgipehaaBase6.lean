/- Operations on rows and boxes. -/
import Derived.Test.YtohfgnjmgipehaaBase5
namespace Go.H
open Go

def kF (k : FloatKind) : Kd (Option Nat) where
  size := 1
  rel x us := ∃ v, us = [v] ∧ IsF k v x
  len := by rintro _ _ ⟨v, rfl, _⟩; rfl
  one := by rintro _ _ ⟨v, rfl, b, rfl, _⟩ u hu; simp at hu; subst hu; rfl
  pos := by decide

def kI (k : IntKind) : Kd Int where
  size := 1
  rel n us := us = [.int k n]
  len := by rintro _ _ rfl; rfl
  one := by rintro _ _ rfl u hu; simp at hu; subst hu; rfl
  pos := by decide

def kB : Kd Bool where
  size := 1
  rel b us := us = [.bool b]
  len := by rintro _ _ rfl; rfl
  one := by rintro _ _ rfl u hu; simp at hu; subst hu; rfl
  pos := by decide

def IsC (k : FloatKind) (v : Value) (x : Option Nat × Option Nat) : Prop := ∃ a b, v = .complex k a b ∧ a < 2 ^ k.format.width ∧ b < 2 ^ k.format.width ∧ cls k a = x.1 ∧ cls k b = x.2

def kC (k : FloatKind) : Kd (Option Nat × Option Nat) where
  size := 1
  rel x us := ∃ v, us = [v] ∧ IsC k v x
  len := by rintro _ _ ⟨v, rfl, _⟩; rfl
  one := by rintro _ _ ⟨v, rfl, a, b, rfl, _⟩ u hu; simp at hu; subst hu; rfl
  pos := by decide

/-- elements that are told by their very values -/
def kV : Kd Value where
  size := 1
  rel x us := us = [x] ∧ x.oneCell' = true
  len := by rintro _ _ ⟨rfl, _⟩; rfl
  one := by rintro _ _ ⟨rfl, h⟩ u hu; simp at hu; subst hu; exact h
  pos := by decide

/-- pairs of integers -/
def kII (k : IntKind) : Kd (Int × Int) where
  size := 2
  rel x us := us = [.int k x.1, .int k x.2]
  len := by rintro _ _ rfl; rfl
  one := by rintro _ _ rfl u hu; simp at hu; rcases hu with rfl | rfl <;> rfl
  pos := by decide

def idx {α : Type} (l : List α) (n : Int) : Option α := if 0 ≤ n then l[n.toNat]? else none

theorem idx_some {α : Type} {l : List α} {n : Int} {x : α} (h : idx l n = some x) : 0 ≤ n ∧ n.toNat < l.length ∧ l[n.toNat]? = some x := by
  unfold idx at h
  split at h
  · exact ⟨by assumption, (List.getElem?_eq_some_iff.1 h).1, h⟩
  · cases h

def PtI (sz : Nat) (u v : Value) (i : Nat) : Prop := ∃ p n c, v = .slice (some p) n c ∧ u = .pointer (some (p.add (i * sz)))

def oneCellT (P : Program) (t : TypeId) : Bool := match P.underlying t with
  | some (.struct _) => false
  | some (.array _ _) => false
  | some _ => true
  | none => false

theorem run_loadVar_one {P : Program} {t : TypeId} (ht : oneCellT P t = true) {w : World} {a : Addr} {v : Value} (hv : w.cell? a = some v) : (loadVar t a).run P w = .ok v w := by
  unfold oneCellT at ht
  cases hu : P.underlying t with
  | none => rw [hu] at ht; cases ht
  | some d =>
    rw [hu] at ht
    cases d <;> first | (cases ht; done) | simp [loadVar, isAgg, run_underlying hu, hv]

section
variable {P : Program} {φ : Fr} {h : Heap} {o : Oper} {α : Type} {K : Kd α} {e : Nat} {v : Value} {l : List α}

theorem opv_len {t E : TypeId} {x : Operand} (ho : o.op = .call { callee := .builtin .len, args := #[x], argTypes := #[t] }) (ht : P.underlying t = some (.slice E)) (hx : φ.ev x = some v) (H : SL K e h v l) : OpV P φ o h (Det (.int .i64 l.length) h) := by
  intro a w hev hw
  obtain ⟨p, c, xs, rfl, _, _⟩ := H
  refine .inl ⟨_, w, ?_, Same.refl w, rfl, hw.symm⟩
  simp [execOp, ho, resolve, hev x _ hx, invoke, builtin, Builtin.len_, run_underlying ht, goInt]

theorem opv_lenS {t : TypeId} {x : Operand} {s : ByteArray} (ho : o.op = .call { callee := .builtin .len, args := #[x], argTypes := #[t] }) (ht : P.underlying t = some .string) (hx : φ.ev x = some (.string s)) : OpV P φ o h (Det (.int .i64 s.size) h) := by
  intro a w hev hw
  refine .inl ⟨_, w, ?_, Same.refl w, rfl, hw.symm⟩
  simp [execOp, ho, resolve, hev x _ hx, invoke, builtin, Builtin.len_, run_underlying ht, goInt]

theorem opv_index {t E : TypeId} {x i : Operand} {k : IntKind} {n : Int} {y : α} (ho : o.op = .indexAddr t x i) (ht : P.underlying t = some (.slice E)) (hs : (P.info? E).map (·.size) = some K.size) (hx : φ.ev x = some v) (hi : φ.ev i = some (.int k n)) (H : SL K e h v l) (hn : idx l n = some y) :
    OpV P φ o h (fun u h' => PtI K.size u v n.toNat ∧ h = h') := by
  intro a w hev hw
  obtain ⟨p, c, xs, rfl, hr, hc⟩ := H
  obtain ⟨h0, h1, _⟩ := idx_some hn
  rcases hc with rfl | ⟨q, rfl, hq, hb, hcell⟩
  · simp at h1
  obtain ⟨info, hinfo, hsz⟩ := Option.map_eq_some_iff.1 hs
  refine .inl ⟨.pointer (some (q.add (n.toNat * K.size))), w, ?_, Same.refl w, ⟨q, l.length, c, rfl, rfl⟩, hw.symm⟩
  have h1' : n < (l.length : Int) := by omega
  simp [execOp, ho, hev x _ hx, hev i _ hi, Instr.indexAt, asIntOf, run_underlying ht, h0, h1', sizeOf, typeInfo, hinfo, hsz]

theorem opv_load {t : TypeId} {x : Operand} {a : Addr} {u : Value} (ho : o.op = .load t x) (ht : oneCellT P t = true) (hx : φ.ev x = some (.pointer (some a))) (hc : (hw h).cell? a = some u) : OpV P φ o h (Det u h) := by
  intro a' w hev hw'
  refine .inl ⟨u, w, ?_, Same.refl w, rfl, hw'.symm⟩
  have := run_loadVar_one (P := P) ht (w := w) (a := a) (v := u) (by rw [cell_hw hw']; exact hc)
  simp [execOp, ho, hev x _ hx, Instr.loadAt, Instr.sureAddr, this]

theorem SL.cell1 (H : SL K e h v l) (h1 : K.size = 1) {u : Value} {i : Nat} (hp : PtI K.size u v i) {y : α} (hy : l[i]? = some y) : ∃ a r, u = .pointer (some a) ∧ (hw h).cell? a = some r ∧ K.rel y [r] := by
  obtain ⟨p, c, xs, rfl, hr, hc⟩ := H
  obtain ⟨q, n, c', hv, rfl⟩ := hp
  simp only [Value.slice.injEq] at hv
  obtain ⟨rfl, rfl, rfl⟩ := hv
  rcases hc with rfl | ⟨p, hp, hsp, hb, hcell⟩
  · simp at hy
  cases hp
  obtain ⟨us, hrel, hus⟩ := hr.2.get hy
  have hl := K.len _ _ hrel
  rw [h1] at hl
  obtain ⟨r, rfl⟩ := List.length_eq_one_iff.1 hl
  exact ⟨_, r, rfl, hcell _ _ (by simpa using hus 0 r rfl), hrel⟩

theorem opv_loadE {t : TypeId} {x : Operand} {u : Value} {i : Nat} {y : α} (ho : o.op = .load t x) (ht : oneCellT P t = true) (h1 : K.size = 1) (hx : φ.ev x = some u) (hp : PtI K.size u v i) (H : SL K e h v l) (hy : l[i]? = some y) : OpV P φ o h (fun r h' => K.rel y [r] ∧ h = h') := by
  obtain ⟨a, r, rfl, hc, hr⟩ := H.cell1 h1 hp hy
  exact (opv_load ho ht hx hc).mono (by rintro _ _ ⟨rfl, rfl⟩; exact ⟨hr, rfl⟩)

theorem opv_loadF {k : FloatKind} {l : List (Option Nat)} {t : TypeId} {x : Operand} {u : Value} {n : Int} {y : Option Nat} (ho : o.op = .load t x) (ht : oneCellT P t = true) (hx : φ.ev x = some u) (hp : PtI 1 u v n.toNat) (H : SL (kF k) e h v l) (hy : idx l n = some y) : OpV P φ o h (Flt k y h) :=
  (opv_loadE (K := kF k) ho ht rfl hx hp H (idx_some hy).2.2).mono (by rintro r _ ⟨⟨w, hw, hf⟩, rfl⟩; simp at hw; subst hw; exact ⟨hf, rfl⟩)
theorem opv_loadI {k : IntKind} {l : List Int} {t : TypeId} {x : Operand} {u : Value} {n : Int} {y : Int} (ho : o.op = .load t x) (ht : oneCellT P t = true) (hx : φ.ev x = some u) (hp : PtI 1 u v n.toNat) (H : SL (kI k) e h v l) (hy : idx l n = some y) : OpV P φ o h (Det (.int k y) h) :=
  (opv_loadE (K := kI k) ho ht rfl hx hp H (idx_some hy).2.2).mono (by rintro r _ ⟨hw, rfl⟩; change [r] = [.int k y] at hw; simp at hw; subst hw; exact ⟨rfl, rfl⟩)
theorem opv_loadBl {l : List Bool} {t : TypeId} {x : Operand} {u : Value} {n : Int} {y : Bool} (ho : o.op = .load t x) (ht : oneCellT P t = true) (hx : φ.ev x = some u) (hp : PtI 1 u v n.toNat) (H : SL kB e h v l) (hy : idx l n = some y) : OpV P φ o h (Det (.bool y) h) :=
  (opv_loadE (K := kB) ho ht rfl hx hp H (idx_some hy).2.2).mono (by rintro r _ ⟨hw, rfl⟩; change [r] = [.bool y] at hw; simp at hw; subst hw; exact ⟨rfl, rfl⟩)

/-! boxes -/

/-- block b holds just these cells, and may be written -/
def Bx (h : Heap) (b : Nat) (cs : List Value) : Prop := ∃ T, h[b]? = some (.cells cs.toArray T (0, 0))

theorem Bx.lt {b : Nat} {cs : List Value} (H : Bx h b cs) : b < h.size := by obtain ⟨T, hT⟩ := H; exact (Array.getElem?_eq_some_iff.1 hT).1
theorem Bx.chg {b : Nat} {cs : List Value} {h' : Heap} {S : Nat → Prop} (H : Bx h b cs) (c : Chg S h h') (hs : ¬ S b) : Bx h' b cs := by
  have := H.lt
  obtain ⟨T, hT⟩ := H
  exact ⟨T, by rw [c.blk b this hs]; exact hT⟩
theorem Bx.ext {b : Nat} {cs : List Value} {h' : Heap} (H : Bx h b cs) (c : Ext h h') : Bx h' b cs := H.chg (c.chg fun _ => False) (fun x => x)
theorem Bx.cell {b : Nat} {cs : List Value} (H : Bx h b cs) {k : Nat} {u : Value} (hk : cs[k]? = some u) : (hw h).cell? ⟨b, k, none⟩ = some u := by
  obtain ⟨T, hT⟩ := H
  have hT' : (hw h).heap[b]? = some (.cells cs.toArray T (0, 0)) := hT
  simp [World.cell?, hT', hk]

theorem opv_loadB {t : TypeId} {x : Operand} {b k : Nat} {cs : List Value} {u : Value} (ho : o.op = .load t x) (ht : oneCellT P t = true) (hx : φ.ev x = some (.pointer (some ⟨b, k, none⟩))) (H : Bx h b cs) (hk : cs[k]? = some u) : OpV P φ o h (Det u h) :=
  opv_load ho ht hx (H.cell hk)

theorem opv_nilCheck {x : Operand} {a : Addr} (ho : o.op = .nilCheck x) (hx : φ.ev x = some (.pointer (some a))) : OpV P φ o h (Det (.pointer (some a)) h) := by
  intro a' w hev hw'
  exact .inl ⟨_, w, by simp [execOp, ho, hev x _ hx], Same.refl w, rfl, hw'.symm⟩

/-- where a field begins; none of no size -/
def fieldOff (P : Program) (s : TypeId) (f : Nat) : Option Nat := match P.underlying s with
  | some (.struct fs) => match fs[f]? with
    | some fd => match P.info? fd.type with
      | some i => if i.size = 0 then none else some fd.offset
      | none => none
    | none => none
  | _ => none

theorem add_lit (b k n : Nat) : (⟨b, k, none⟩ : Addr).add n = ⟨b, k + n, none⟩ := by unfold Addr.add; split <;> simp_all

theorem opv_fieldAddr {s : TypeId} {x : Operand} {f n : Nat} {b k : Nat} (ho : o.op = .fieldAddr s x f) (hf : fieldOff P s f = some n) (hx : φ.ev x = some (.pointer (some ⟨b, k, none⟩))) : OpV P φ o h (Det (.pointer (some ⟨b, k + n, none⟩)) h) := by
  intro a' w hev hw'
  refine .inl ⟨_, w, ?_, Same.refl w, rfl, hw'.symm⟩
  unfold fieldOff at hf
  split at hf
  · rename_i fs hu
    split at hf
    · rename_i fd hfd
      split at hf
      · rename_i i hi
        split at hf
        · cases hf
        · rename_i hz
          cases hf
          simp [execOp, ho, hev x _ hx, Instr.fieldAt, Instr.sureAddr, run_underlying hu, hfd, fieldPlace, sizeOf, typeInfo, hi, hz, add_lit]
      · cases hf
    · cases hf
  · cases hf

theorem ext_push (h : Heap) (ob : Obj) : Ext h (h.push ob) := ⟨by simp, fun b hb => by rw [Array.getElem?_push, if_neg (by omega)]⟩

/-- a value laid into a box of its own -/
def Boxed (h : Heap) (cs : List Value) (u : Value) (h' : Heap) : Prop := ∃ b, u = .pointer (some ⟨b, 0, none⟩) ∧ b = h.size ∧ Ext h h' ∧ h'.size = h.size + 1 ∧ Bx h' b cs

theorem boxed_push (h : Heap) (cs : List Value) (T : TypeId) : Boxed h cs (.pointer (some ⟨h.size, 0, none⟩)) (h.push (.cells cs.toArray T)) :=
  ⟨h.size, rfl, rfl, ext_push _ _, by simp, T, by simp⟩

theorem opv_boxA {t : TypeId} {x : Operand} {cs : List Value} (ho : o.op = .box t x) (hx : φ.ev x = some (.agg cs.toArray)) : OpV P φ o h (Boxed h cs) := by
  intro a' w hev hw'
  subst hw'
  exact .inl ⟨.pointer (some ⟨w.heap.size, 0, none⟩), w.alloc (.cells cs.toArray t), by simp [execOp, ho, hev x _ hx, Instr.box, newVar, newRow, Value.cells], ⟨rfl, rfl, rfl⟩, boxed_push _ _ _⟩

theorem opv_box1 {t : TypeId} {x : Operand} {u : Value} (ho : o.op = .box t x) (hx : φ.ev x = some u) (hu : u.oneCell' = true) : OpV P φ o h (Boxed h [u]) := by
  intro a' w hev hw'
  subst hw'
  have hc : u.cells = [u].toArray := by cases u <;> first | rfl | cases hu
  exact .inl ⟨.pointer (some ⟨w.heap.size, 0, none⟩), w.alloc (.cells [u].toArray t), by simp [execOp, ho, hev x _ hx, Instr.box, newVar, newRow, hc], ⟨rfl, rfl, rfl⟩, boxed_push w.heap [u] _⟩

theorem opv_alloc {t : TypeId} {z : Value} {cs : List Value} (ho : o.op = .alloc t) (hz : (P.info? t).bind (·.zero) = some z) (hc : z.cells = cs.toArray) : OpV P φ o h (Boxed h cs) := by
  intro a' w hev hw'
  subst hw'
  obtain ⟨i, hi, hiz⟩ := Option.bind_eq_some_iff.1 hz
  exact .inl ⟨.pointer (some ⟨w.heap.size, 0, none⟩), w.alloc (.cells cs.toArray t), by simp [execOp, ho, Instr.alloc, zeroValue, typeInfo, hi, hiz, newVar, newRow, hc], ⟨rfl, rfl, rfl⟩, boxed_push _ _ _⟩

theorem opv_extract {x : Operand} {n : Nat} {vs : List Value} {u : Value} (ho : o.op = .extract x n) (hx : φ.ev x = some (.tuple vs.toArray)) (hu : vs[n]? = some u) : OpV P φ o h (Det u h) := by
  intro a' w hev hw'
  exact .inl ⟨_, w, by simp [execOp, ho, hev x _ hx, Instr.extract, hu], Same.refl w, rfl, hw'.symm⟩
end
end Go.H
