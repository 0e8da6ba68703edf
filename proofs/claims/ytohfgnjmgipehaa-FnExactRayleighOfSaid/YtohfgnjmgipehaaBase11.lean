/- Aggregates; the absolute value's bits; three results. -/
import Derived.Test.YtohfgnjmgipehaaBase10
namespace Go.H
open Go

def aggT (P : Program) (t : TypeId) : Bool := match P.underlying t with
  | some (.struct _) => true
  | some (.array _ _) => true
  | _ => false

theorem run_isAgg {P : Program} {t : TypeId} (ht : aggT P t = true) (w : World) : (isAgg t).run P w = .ok true w := by
  unfold aggT at ht
  cases hu : P.underlying t with
  | none => rw [hu] at ht; cases ht
  | some d => rw [hu] at ht; cases d <;> first | (cases ht; done) | simp [isAgg, run_underlying hu]

theorem run_notAgg {P : Program} {t : TypeId} (ht : oneCellT P t = true) (w : World) : (isAgg t).run P w = .ok false w := by
  unfold oneCellT at ht
  cases hu : P.underlying t with
  | none => rw [hu] at ht; cases ht
  | some d => rw [hu] at ht; cases d <;> first | (cases ht; done) | simp [isAgg, run_underlying hu]

/-- where a field begins, and how many cells it has -/
def fieldAt (P : Program) (s : TypeId) (f : Nat) : Option (Nat × TypeId) := match P.underlying s with
  | some (.struct fs) => (fs[f]?).map fun fd => (fd.offset, fd.type)
  | _ => none

section
variable {P : Program} {φ : Fr} {h : Heap} {o : Oper}

theorem run_loadVar_agg {t : TypeId} {n b k : Nat} {cs us : List Value} (ht : aggT P t = true) (hn : (P.info? t).map (·.size) = some n) (H : Bx h b cs) (hus : (cs.drop k).take n = us) (hl : us.length = n) {w : World} (hw' : w.heap = h) : (loadVar t ⟨b, k, none⟩).run P w = .ok (.agg us.toArray) w := by
  obtain ⟨i, hi, hsz⟩ := Option.map_eq_some_iff.1 hn
  have hcells : (loadCells ⟨b, k, none⟩ n).run P w = .ok us.toArray w := by
    have := run_loadCells_list (P := P) (w := w) ⟨b, k, none⟩ us (fun j v hj => by
      rw [add_lit, cell_hw hw']
      refine H.cell ?_
      rw [← hus, List.getElem?_take] at hj
      split at hj
      · rw [List.getElem?_drop] at hj; exact hj
      · cases hj)
    rw [hl] at this
    exact this
  simp [loadVar, run_isAgg ht, sizeOf, typeInfo, hi, hsz, hcells]

theorem opv_loadA {t : TypeId} {x : Operand} {n b k : Nat} {cs us : List Value} (ho : o.op = .load t x) (ht : aggT P t = true) (hn : (P.info? t).map (·.size) = some n) (hx : φ.ev x = some (.pointer (some ⟨b, k, none⟩))) (H : Bx h b cs) (hus : (cs.drop k).take n = us) (hl : us.length = n) : OpV P φ o h (Det (.agg us.toArray) h) := by
  intro a w hev hw'
  refine .inl ⟨_, w, ?_, Same.refl w, rfl, hw'.symm⟩
  simp [execOp, ho, hev x _ hx, Instr.loadAt, Instr.sureAddr, run_loadVar_agg ht hn H hus hl hw']

theorem opv_field {s t : TypeId} {x : Operand} {f n : Nat} {cs : List Value} {u : Value} (ho : o.op = .field s x f) (hf : fieldAt P s f = some (n, t)) (ht : oneCellT P t = true) (hx : φ.ev x = some (.agg cs.toArray)) (hu : cs[n]? = some u) : OpV P φ o h (Det u h) := by
  intro a w hev hw'
  refine .inl ⟨_, w, ?_, Same.refl w, rfl, hw'.symm⟩
  unfold fieldAt at hf
  split at hf
  · rename_i fs hus
    obtain ⟨fd, hfd, he⟩ := Option.map_eq_some_iff.1 hf
    cases he
    simp [execOp, ho, hev x _ hx, Instr.field, run_underlying hus, hfd, asAgg, part, run_notAgg ht, hu]
  · cases hf

theorem Rt.three {N : Nat} {fn : Func} {R : Value → Heap → Prop} {t u s : Tmp} {v x y : Value} (hr : fn.results = #[.tmp t, .tmp u, .tmp s]) (ht : φ.get t = some v) (hu : φ.get u = some x) (hs : φ.get s = some y) (H : R (.tuple #[v, x, y]) h) : Rt P N fn R .ret φ h :=
  ⟨_, fun a w ho _ => by simp only [results, hr]; simp [ho.slot _ _ ht, ho.slot _ _ hu, ho.slot _ _ hs], H⟩

/-- a result that lies in a cell of its own -/
theorem Rt.cell1 {N : Nat} {fn : Func} {R : Value → Heap → Prop} {p : Tmp} {t : TypeId} {n b : Nat} {cs : List Value} (hr : fn.results = #[.cell p t]) (hp : φ.get p = some (.pointer (some ⟨b, 0, Option.none⟩))) (ht : aggT P t = true) (hn : (P.info? t).map (·.size) = some n) (H : Bx h b cs) (hl : cs.length = n) (HR : R (.agg cs.toArray) h) : Rt P N fn R .ret φ h :=
  ⟨_, fun a w ho hw' => by
    have := run_loadVar_agg (k := 0) (us := cs) ht hn H (by simp [← hl]) hl hw'
    simp only [results, hr]
    simp [ho.slot _ _ hp, asAddr, this], HR⟩
theorem Rt.cellA {N : Nat} {fn : Func} {R : Value → Heap → Prop} {p u : Tmp} {t : TypeId} {n b : Nat} {cs : List Value} {x : Value} (hr : fn.results = #[.cell p t, .tmp u]) (hp : φ.get p = some (.pointer (some ⟨b, 0, Option.none⟩))) (hu : φ.get u = some x) (ht : aggT P t = true) (hn : (P.info? t).map (·.size) = some n) (H : Bx h b cs) (hl : cs.length = n) (HR : R (.tuple #[.agg cs.toArray, x]) h) : Rt P N fn R .ret φ h :=
  ⟨_, fun a w ho hw' => by
    have := run_loadVar_agg (k := 0) (us := cs) ht hn H (by simp [← hl]) hl hw'
    simp only [results, hr]
    simp [ho.slot _ _ hp, ho.slot _ _ hu, asAddr, this], HR⟩
theorem Rt.cellB {N : Nat} {fn : Func} {R : Value → Heap → Prop} {p u s : Tmp} {t : TypeId} {n b : Nat} {cs : List Value} {x y : Value} (hr : fn.results = #[.cell p t, .tmp u, .tmp s]) (hp : φ.get p = some (.pointer (some ⟨b, 0, Option.none⟩))) (hu : φ.get u = some x) (hs : φ.get s = some y) (ht : aggT P t = true) (hn : (P.info? t).map (·.size) = some n) (H : Bx h b cs) (hl : cs.length = n) (HR : R (.tuple #[.agg cs.toArray, x, y]) h) : Rt P N fn R .ret φ h :=
  ⟨_, fun a w ho hw' => by
    have := run_loadVar_agg (k := 0) (us := cs) ht hn H (by simp [← hl]) hl hw'
    simp only [results, hr]
    simp [ho.slot _ _ hp, ho.slot _ _ hu, ho.slot _ _ hs, asAddr, this], HR⟩
end

theorem abs_bits {b : Nat} (hb : b < 18446744073709551616) : (IntKind.wrap .u64 ((BitVec.ofInt 64 (b : Int) &&& ~~~ BitVec.ofInt 64 9223372036854775808).toNat : Int)).toNat = b % 2 ^ 63 := by
  have e1 : (~~~ BitVec.ofInt 64 9223372036854775808) = BitVec.ofNat 64 (2 ^ 63 - 1) := by decide
  rw [e1, BitVec.toNat_and]
  have e2 : (BitVec.ofInt 64 (b : Int)).toNat = b := by
    rw [BitVec.ofInt_natCast, BitVec.toNat_ofNat]; omega
  have e3 : (BitVec.ofNat 64 (2 ^ 63 - 1)).toNat = 2 ^ 63 - 1 := by decide
  rw [e2, e3, Nat.and_two_pow_sub_one_eq_mod]
  have h1 : b % 2 ^ 63 < 2 ^ 63 := Nat.mod_lt _ (by decide)
  generalize b % 2 ^ 63 = c at *
  show (IntKind.wrap .u64 (c : Int)).toNat = c
  have h2 : (c : Int) % (2 ^ IntKind.u64.bits : Int) = c := by
    show (c : Int) % 18446744073709551616 = c
    omega
  unfold IntKind.wrap
  simp only [h2]
  simp [IntKind.signed]

theorem fabs_cls {b : Nat} : cls .f64 (b % 2 ^ 63) = fabs (cls .f64 b) := by
  have hs : FloatKind.f64.format.signWeight = 2 ^ 63 := by decide
  unfold cls fabs
  rw [read_isNaN, read_isNaN, hs, Nat.mod_mod]
  split <;> rfl

section
variable {P : Program} {φ : Fr} {h : Heap} {o : Oper}
theorem opv_andNot {t t' : TypeId} {x y : Operand} {m n : Int} (ho : o.op = .binOp .andNot t x y t') (hx : φ.ev x = some (.int .u64 m)) (hy : φ.ev y = some (.int .u64 n)) : OpV P φ o h (Det (.int .u64 (IntKind.wrap .u64 ((BitVec.ofInt 64 m &&& ~~~ BitVec.ofInt 64 n).toNat : Int))) h) := by
  intro a w hev hw
  refine .inl ⟨_, w, ?_, Same.refl w, rfl, hw.symm⟩
  simp [execOp, ho, hev x _ hx, hev y _ hy, eqGuard, binOp, Op.intBits]
  rfl
end
theorem IsF.one {k : FloatKind} {v : Value} {x : Option Nat} (h : IsF k v x) : v.oneCell' = true := by obtain ⟨b, rfl, _⟩ := h; rfl
theorem IsC.one {k : FloatKind} {v : Value} {x : Option Nat × Option Nat} (h : IsC k v x) : v.oneCell' = true := by obtain ⟨a, b, rfl, _⟩ := h; rfl
theorem SL.one {α : Type} {K : Kd α} {e : Nat} {h : Heap} {v : Value} {l : List α} (H : SL K e h v l) : v.oneCell' = true := by obtain ⟨a, c, xs, rfl, _⟩ := H; rfl

/-- the greater of two floats; not-a-number if one is -/
def fmax (k : FloatKind) (x y : Option Nat) : Option Nat := x.bind fun a => y.bind fun b => match k.format.order a b with
  | none => none
  | some .lt => some b
  | some .gt => some a
  | some .eq => some (if (k.decode a).neg then b else a)

theorem nan_cut_max (x y t : Nat) (m : Bool) (k : FloatKind) : (Question.nanMinMax k m x y).cut t < 2 ^ k.format.width ∧ cls k ((Question.nanMinMax k m x y).cut t) = none := by
  have e : (Question.nanMinMax k m x y).cut t = (Question.nanBits k x y).cut t := by cases k <;> rfl
  rw [e]
  exact nan_cut x y t k _ (.inl rfl)

theorem opv_fmax {P : Program} {φ : Fr} {h : Heap} {o : Oper} {x y : Operand} {ts : Array TypeId} {k : FloatKind} {u v : Value} {m n : Option Nat} (ho : o.op = .call { callee := .builtin .max, args := #[x, y], argTypes := ts }) (hx : φ.ev x = some u) (hy : φ.ev y = some v) (hu : IsF k u m) (hv : IsF k v n) : OpV P φ o h (Flt k (fmax k m n) h) := by
  intro a w hev hw
  obtain ⟨b, rfl, hb, hb2⟩ := hu
  obtain ⟨c, rfl, hc, hc2⟩ := hv
  have hrun : ∀ r w', (Builtin.max2 (.float k b) (.float k c)).run P w = .ok r w' → (execOp a.eval o).run P w = .ok (.value r) w' := by
    intro r w' hr
    simp [execOp, ho, resolve, hev x _ hx, hev y _ hy, invoke, builtin, Builtin.max_, hr]
  have hmax : Builtin.max2 (.float k b) (.float k c) = (match k.format.order b c with
    | none => do pure (.float k (← choose (.nanMinMax k true b c)))
    | some .lt => pure (.float k c)
    | some .gt => pure (.float k b)
    | some .eq => pure (.float k (if (k.decode b).neg then c else b))) := rfl
  cases ho' : k.format.order b c with
  | none =>
    have hcut := nan_cut_max b c (w.tape w.drawn (.nanMinMax k true b c)) true k
    refine .inl ⟨.float k ((Question.nanMinMax k true b c).cut (w.tape w.drawn (.nanMinMax k true b c))), w.drew, ?_, Same.drew w, ⟨_, rfl, hcut.1, ?_⟩, hw.symm⟩
    · refine hrun _ _ ?_
      rw [hmax, ho']
      simp [Question.forced]
    · rw [hcut.2]
      unfold fmax
      cases hm : m with
      | none => rfl
      | some b' =>
        cases hn : n with
        | none => rfl
        | some c' =>
          rw [hm] at hb2; rw [hn] at hc2
          have e1 := (cls_some.1 hb2).1
          have e2 := (cls_some.1 hc2).1
          subst e1; subst e2
          simp [ho']
  | some od =>
    have hbc : m = some b ∧ n = some c := by
      rw [order_cls, hb2, hc2] at ho'
      unfold ford at ho'
      cases hm : m with
      | none => rw [hm] at ho'; cases ho'
      | some b' =>
        cases hn : n with
        | none => rw [hm, hn] at ho'; cases ho'
        | some c' =>
          rw [hm] at hb2; rw [hn] at hc2
          rw [(cls_some.1 hb2).1, (cls_some.1 hc2).1]; exact ⟨rfl, rfl⟩
    obtain ⟨rfl, rfl⟩ := hbc
    have hb3 := (cls_some.1 hb2).2
    have hc3 := (cls_some.1 hc2).2
    cases od with
    | lt => exact .inl ⟨_, w, hrun _ _ (by rw [hmax, ho']; rfl), Same.refl w, by simp [fmax, ho']; exact isF_bits hc hc3, hw.symm⟩
    | gt => exact .inl ⟨_, w, hrun _ _ (by rw [hmax, ho']; rfl), Same.refl w, by simp [fmax, ho']; exact isF_bits hb hb3, hw.symm⟩
    | eq =>
      refine .inl ⟨_, w, hrun _ _ (by rw [hmax, ho']; rfl), Same.refl w, ?_, hw.symm⟩
      simp only [fmax, ho', Option.bind_some]
      split
      · exact isF_bits hc hc3
      · exact isF_bits hb hb3
theorem raw_bits_run {P : Program} (b : Nat) (w : World) : ∃ v w', (Extern.MathFloatBits.float64bits [Value.float .f64 b].toArray).run P w = .ok v w' ∧ Same w w' ∧ w'.heap = w.heap ∧ .int .u64 (b : Int) = v :=
  ⟨_, w, rfl, Same.refl w, rfl, rfl⟩
theorem raw_abs_run {P : Program} {b : Nat} {x : Option Nat} (hb : b < 2 ^ FloatKind.f64.format.width) (hc : cls .f64 b = x) (w : World) : ∃ v w', (Extern.MathFloatBits.float64frombits [.int .u64 (IntKind.wrap .u64 ((BitVec.ofInt 64 (b : Int) &&& ~~~ BitVec.ofInt 64 9223372036854775808).toNat : Int))].toArray).run P w = .ok v w' ∧ Same w w' ∧ w'.heap = w.heap ∧ IsF .f64 v (fabs x) := by
  have hb' : b < 18446744073709551616 := hb
  refine ⟨_, w, rfl, Same.refl w, rfl, _, rfl, ?_, ?_⟩
  · rw [abs_bits hb']
    have : b % 2 ^ 63 < 2 ^ 63 := Nat.mod_lt _ (by decide)
    show _ < 18446744073709551616
    omega
  · rw [abs_bits hb', fabs_cls, hc]
theorem raw_sign {b : Nat} {x : Option Nat} {r : Bool} (hb : b < 2 ^ FloatKind.f64.format.width) (hc : cls .f64 b = x) (hp : fsign x = some r) : decide (IntKind.wrap .i64 (b : Int) < 0) = r := by
  have hb' : b < 18446744073709551616 := hb
  subst hc
  unfold fsign at hp
  cases h : cls .f64 b with
  | none => rw [h] at hp; cases hp
  | some c =>
    rw [h] at hp
    have := (cls_some.1 h).1
    subst this
    cases hp
    rw [decide_eq_decide]
    have h2 : (c : Int) % (2 ^ IntKind.i64.bits : Int) = c := by
      show (c : Int) % 18446744073709551616 = c
      omega
    unfold IntKind.wrap
    simp only [h2]
    show (if (IntKind.i64.signed && decide ((c : Int) ≥ (2 ^ (IntKind.i64.bits - 1) : Int))) = true then _ else _) < 0 ↔ _
    show (if (decide ((c : Int) ≥ 9223372036854775808)) = true then (c : Int) - 18446744073709551616 else c) < 0 ↔ 9223372036854775808 ≤ c
    by_cases hh : (c : Int) ≥ 9223372036854775808
    · simp [hh]; omega
    · simp [hh]; omega
end Go.H
