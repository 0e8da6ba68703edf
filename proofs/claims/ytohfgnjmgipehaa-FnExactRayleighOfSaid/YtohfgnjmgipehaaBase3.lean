/- What single operations give. -/
import Derived.Test.YtohfgnjmgipehaaBase2
import Derived.WalkLawsBesides
namespace Go.H
open Go

/-! ### numbers -/

/-- a float's bits, all not-a-numbers alike -/
def cls (k : FloatKind) (b : Nat) : Option Nat := if (k.format.read b).isNaN then none else some b

def IsF (k : FloatKind) (v : Value) (x : Option Nat) : Prop := ∃ b, v = .float k b ∧ b < 2 ^ k.format.width ∧ cls k b = x

def fop (op : BinOp) (k : FloatKind) (x y : Option Nat) : Option Nat := x.bind fun a => y.bind fun b => floatBits op k a b
def ford (k : FloatKind) (x y : Option Nat) : Option Ordering := x.bind fun a => y.bind fun b => k.format.order a b
def feq (k : FloatKind) (x y : Option Nat) : Bool := ford k x y == some .eq
def flt (k : FloatKind) (x y : Option Nat) : Bool := ford k x y == some .lt
def fle (k : FloatKind) (x y : Option Nat) : Bool := ford k x y == some .lt || ford k x y == some .eq
def fneg (k : FloatKind) (x : Option Nat) : Option Nat := x.map (Op.negFloat k)
def fofi (k : FloatKind) (n : Int) : Option Nat := some (k.nearest n)
/-- a conversion: outside: nothing told (too great); inside: not-a-number -/
def fcv (s d : FloatKind) (x : Option Nat) : Option (Option Nat) :=
  match x with
  | none => some none
  | some b => (floatToFloatBits s b d).map some
def ftoi (s : FloatKind) (k : IntKind) (x : Option Nat) : Option Int := x.bind fun b => floatToIntVal s b k

theorem datum_nan {d : Ieee.Datum} (h : d.isNaN = true) : ∃ s t, d = .nan s t := by
  cases d <;> simp [Ieee.Datum.isNaN] at h
  exact ⟨_, _, rfl⟩

theorem not_nan_write (f : Ieee.Format) {d : Ieee.Datum} (h : d.isNaN = false) : (f.read (f.write d)).isNaN = false := by
  have key : ∀ (neg : Bool) (r : Nat), r ≤ f.infRung → (f.read (f.word neg r)).isNaN = false := by
    intro neg r hr
    have hlt := f.infRung_lt
    have h1 : f.word neg r % f.signWeight = r := by
      unfold Ieee.Format.word
      split
      · rw [Nat.add_mod_left, Nat.mod_eq_of_lt (by omega)]
      · exact Nat.mod_eq_of_lt (by omega)
    unfold Ieee.Format.read
    simp only [h1]
    split
    · rfl
    · split
      · rfl
      · split
        · rfl
        · omega
  cases d with
  | number neg mag place =>
    show (f.read (f.nearest neg mag place)).isNaN = false
    unfold Ieee.Format.nearest
    dsimp only
    split
    · exact key neg 0 (Nat.zero_le _)
    · exact key neg _ (Nat.min_le_right ..)
  | infinity neg => exact key neg _ (Nat.le_refl _)
  | nan s t => simp [Ieee.Datum.isNaN] at h

theorem read_nan_none {k : FloatKind} {b : Nat} : cls k b = none ↔ (k.format.read b).isNaN = true := by
  unfold cls; split <;> simp_all
theorem cls_some {k : FloatKind} {b r : Nat} : cls k b = some r ↔ r = b ∧ (k.format.read b).isNaN = false := by
  unfold cls
  split
  · rename_i h; simp [h]
  · rename_i h
    simp at h
    simp [h, eq_comm]

theorem cls_write (k : FloatKind) {d : Ieee.Datum} (h : d.isNaN = false) : cls k (k.format.write d) = some (k.format.write d) :=
  cls_some.2 ⟨rfl, not_nan_write _ h⟩

theorem sum_nan {a b d : Ieee.Datum} (h : a.sum b = some d) : d.isNaN = false ∧ a.isNaN = false ∧ b.isNaN = false := by
  cases a <;> cases b <;> simp only [Ieee.Datum.sum] at h <;> try (cases h; done)
  all_goals (first | (split at h <;> cases h <;> simp [Ieee.Datum.isNaN]; done) | (cases h; simp [Ieee.Datum.isNaN]))

theorem product_nan {a b d : Ieee.Datum} (h : a.product b = some d) : d.isNaN = false ∧ a.isNaN = false ∧ b.isNaN = false := by
  cases a <;> cases b <;> simp only [Ieee.Datum.product] at h <;> try (cases h; done)
  all_goals (first | (split at h <;> cases h <;> simp [Ieee.Datum.isNaN]; done) | (cases h; simp [Ieee.Datum.isNaN]))

theorem quotient_nan {n : Nat} {a b d : Ieee.Datum} (h : a.quotient n b = some d) : d.isNaN = false ∧ a.isNaN = false ∧ b.isNaN = false := by
  cases a <;> cases b <;> simp only [Ieee.Datum.quotient] at h <;> try (cases h; done)
  all_goals (repeat' split at h) <;> first | (cases h; done) | (cases h; simp [Ieee.Datum.isNaN])

theorem opposite_nan (a : Ieee.Datum) : a.opposite.isNaN = a.isNaN := by cases a <;> rfl

theorem map_write {f : Ieee.Format} {d : Option Ieee.Datum} {r : Nat} (h : d.map f.write = some r) : ∃ e, d = some e ∧ r = f.write e := by
  cases d with
  | none => cases h
  | some e => cases h; exact ⟨e, rfl, rfl⟩

theorem floatBits_nan {op : BinOp} {k : FloatKind} {x y r : Nat} (h : floatBits op k x y = some r) : (k.format.read r).isNaN = false ∧ (k.format.read x).isNaN = false ∧ (k.format.read y).isNaN = false := by
  have w := fun {d : Ieee.Datum} (hd : d.isNaN = false) => not_nan_write k.format hd
  unfold floatBits at h
  split at h
  · obtain ⟨e, h1, rfl⟩ := map_write h
    obtain ⟨a, b, c⟩ := sum_nan h1
    exact ⟨w a, b, c⟩
  · obtain ⟨e, h1, rfl⟩ := map_write h
    obtain ⟨a, b, c⟩ := sum_nan h1
    rw [opposite_nan] at c
    exact ⟨w a, b, c⟩
  · obtain ⟨e, h1, rfl⟩ := map_write h
    obtain ⟨a, b, c⟩ := product_nan h1
    exact ⟨w a, b, c⟩
  · obtain ⟨e, h1, rfl⟩ := map_write h
    obtain ⟨a, b, c⟩ := quotient_nan h1
    exact ⟨w a, b, c⟩
  · cases h

theorem fop_cls (op : BinOp) (k : FloatKind) (a b : Nat) : fop op k (cls k a) (cls k b) = floatBits op k a b := by
  unfold fop
  cases h : floatBits op k a b with
  | some r =>
    obtain ⟨_, h2, h3⟩ := floatBits_nan h
    rw [cls_some.2 ⟨rfl, h2⟩, cls_some.2 ⟨rfl, h3⟩]
    exact h
  | none =>
    cases ha : cls k a with
    | none => rfl
    | some x =>
      cases hb : cls k b with
      | none => rfl
      | some y =>
        have := (cls_some.1 ha).1
        have := (cls_some.1 hb).1
        subst_vars
        exact h

theorem nan_cut (x y t : Nat) (k : FloatKind) (q : Question) (hq : q = .nanBits k x y ∨ q = .nanConv k x) : q.cut t < 2 ^ k.format.width ∧ cls k (q.cut t) = none := by
  cases k with
  | f32 =>
    have e : q.cut t = t % 2 * 2147483648 + 2139095040 + 1 + t / 2 % 8388607 := by rcases hq with rfl | rfl <;> rfl
    rw [e]
    have h1 : t % 2 < 2 := Nat.mod_lt _ (by decide)
    have h2 : t / 2 % 8388607 < 8388607 := Nat.mod_lt _ (by decide)
    generalize t % 2 = a at *
    generalize t / 2 % 8388607 = c at *
    refine ⟨by show _ < 2 ^ 32; omega, read_nan_none.2 ?_⟩
    have hs : Ieee.single.signWeight = 2147483648 := by decide
    have hb : Ieee.single.binade = 8388608 := by decide
    have hi : Ieee.single.infRung = 2139095040 := by decide
    show (Ieee.single.read _).isNaN = true
    unfold Ieee.Format.read
    simp only [hs, hb, hi]
    rw [if_neg (by omega), if_neg (by omega), if_neg (by omega)]
    rfl
  | f64 =>
    have e : q.cut t = t % 2 * 9223372036854775808 + 9218868437227405312 + 1 + t / 2 % 4503599627370495 := by rcases hq with rfl | rfl <;> rfl
    rw [e]
    have h1 : t % 2 < 2 := Nat.mod_lt _ (by decide)
    have h2 : t / 2 % 4503599627370495 < 4503599627370495 := Nat.mod_lt _ (by decide)
    generalize t % 2 = a at *
    generalize t / 2 % 4503599627370495 = c at *
    refine ⟨by show _ < 2 ^ 64; omega, read_nan_none.2 ?_⟩
    have hs : Ieee.double.signWeight = 9223372036854775808 := by decide
    have hb : Ieee.double.binade = 4503599627370496 := by decide
    have hi : Ieee.double.infRung = 9218868437227405312 := by decide
    show (Ieee.double.read _).isNaN = true
    unfold Ieee.Format.read
    simp only [hs, hb, hi]
    rw [if_neg (by omega), if_neg (by omega), if_neg (by omega)]
    rfl

theorem floatBits_lt {op : BinOp} {k : FloatKind} {x y r : Nat} (h : floatBits op k x y = some r) : r < 2 ^ k.format.width := by
  unfold floatBits at h
  split at h
  · exact k.format.add_lt h
  · exact k.format.sub_lt h
  · exact k.format.mul_lt h
  · exact k.format.div_lt h
  · cases h

/-! ### operations -/
section
variable {P : Program} {φ : Fr} {h : Heap} {o : Oper}

abbrev Det (u : Value) (h : Heap) : Value → Heap → Prop := fun v h' => u = v ∧ h = h'

/-- an operation whose run is a value's, in the world that it got, whatever world that is -/
theorem opv_val {u : Value} {ρ : (Operand → Value) → Sem Value} (ho : ∀ r, execOp r o = (do pure (Next.value (← ρ r)))) (hr : ∀ (a : Act) (w : World), (∀ x v, φ.ev x = some v → a.eval x = v) → w.heap = h → (ρ a.eval).run P w = .ok u w) :
    OpV P φ o h (Det u h) := by
  intro a w hev hw
  refine .inl ⟨u, w, ?_, Same.refl w, rfl, hw.symm⟩
  rw [ho]
  have := hr a w hev hw
  simp [this]

theorem opv_move {x : Operand} {v : Value} (ho : o.op = .move x) (hx : φ.ev x = some v) : OpV P φ o h (Det v h) := by
  intro a w hev hw
  exact .inl ⟨v, w, by simp [execOp, ho, hev x v hx], Same.refl w, rfl, hw.symm⟩

theorem opv_assign {x : Operand} {v : Value} (ho : o.op = .assign x) (hx : φ.ev x = some v) : OpV P φ o h (Det v h) := by
  intro a w hev hw
  exact .inl ⟨v, w, by simp [execOp, ho, hev x v hx], Same.refl w, rfl, hw.symm⟩

theorem opv_pick {c x y : Operand} {b : Bool} {u v : Value} (ho : o.op = .pick c x y) (hc : φ.ev c = some (.bool b)) (hx : b = true → φ.ev x = some u) (hy : b = false → φ.ev y = some u) (hv : v = u) : OpV P φ o h (Det v h) := by
  intro a w hev hw
  subst hv
  refine .inl ⟨v, w, ?_, Same.refl w, rfl, hw.symm⟩
  cases b with
  | true => simp [execOp, ho, hev c _ hc, hev x v (hx rfl), asBool]
  | false => simp [execOp, ho, hev c _ hc, hev y v (hy rfl), asBool]

def arith (op : BinOp) (x y : Int) : Int := match op with | .add => x + y | .sub => x - y | .mul => x * y | _ => 0

theorem opv_int {op : BinOp} {t t' : TypeId} {x y : Operand} {k : IntKind} {m n : Int} (ho : o.op = .binOp op t x y t') (hop : op = .add ∨ op = .sub ∨ op = .mul) (hx : φ.ev x = some (.int k m)) (hy : φ.ev y = some (.int k n)) :
    OpV P φ o h (Det (.int k (k.wrap (arith op m n))) h) := by
  intro a w hev hw
  refine .inl ⟨_, w, ?_, Same.refl w, rfl, hw.symm⟩
  rcases hop with rfl | rfl | rfl <;> simp [execOp, ho, hev x _ hx, hev y _ hy, eqGuard, binOp, Op.intArith, arith]

theorem opv_add {t t' : TypeId} {x y : Operand} {k : IntKind} {m n : Int} (ho : o.op = .binOp .add t x y t') (hx : φ.ev x = some (.int k m)) (hy : φ.ev y = some (.int k n)) : OpV P φ o h (Det (.int k (k.wrap (m + n))) h) := opv_int ho (.inl rfl) hx hy
theorem opv_sub {t t' : TypeId} {x y : Operand} {k : IntKind} {m n : Int} (ho : o.op = .binOp .sub t x y t') (hx : φ.ev x = some (.int k m)) (hy : φ.ev y = some (.int k n)) : OpV P φ o h (Det (.int k (k.wrap (m - n))) h) := opv_int ho (.inr (.inl rfl)) hx hy
theorem opv_mul {t t' : TypeId} {x y : Operand} {k : IntKind} {m n : Int} (ho : o.op = .binOp .mul t x y t') (hx : φ.ev x = some (.int k m)) (hy : φ.ev y = some (.int k n)) : OpV P φ o h (Det (.int k (k.wrap (m * n))) h) := opv_int ho (.inr (.inr rfl)) hx hy

theorem opv_quo {t t' : TypeId} {x y : Operand} {k : IntKind} {m n : Int} (ho : o.op = .binOp .quo t x y t') (hn : n ≠ 0) (hx : φ.ev x = some (.int k m)) (hy : φ.ev y = some (.int k n)) : OpV P φ o h (Det (.int k (k.wrap (m.tdiv n))) h) := by
  intro a w hev hw
  exact .inl ⟨_, w, by simp [execOp, ho, hev x _ hx, hev y _ hy, eqGuard, binOp, Op.intDiv, hn], Same.refl w, rfl, hw.symm⟩
theorem opv_rem {t t' : TypeId} {x y : Operand} {k : IntKind} {m n : Int} (ho : o.op = .binOp .rem t x y t') (hn : n ≠ 0) (hx : φ.ev x = some (.int k m)) (hy : φ.ev y = some (.int k n)) : OpV P φ o h (Det (.int k (m.tmod n)) h) := by
  intro a w hev hw
  exact .inl ⟨_, w, by simp [execOp, ho, hev x _ hx, hev y _ hy, eqGuard, binOp, Op.intDiv, hn], Same.refl w, rfl, hw.symm⟩

/-- a comparison of integers -/
def icmp (op : BinOp) (m n : Int) : Bool := match op with
  | .eql => m == n | .neq => m != n | .lss => decide (m < n) | .leq => decide (m ≤ n) | .gtr => decide (m > n) | .geq => decide (m ≥ n) | _ => false
theorem opv_icmp {op : BinOp} {t t' : TypeId} {x y : Operand} {k : IntKind} {m n : Int} (ho : o.op = .binOp op t x y t') (hop : (match op with | .eql | .neq | .lss | .leq | .gtr | .geq => true | _ => false) = true) (hx : φ.ev x = some (.int k m)) (hy : φ.ev y = some (.int k n)) :
    OpV P φ o h (Det (.bool (icmp op m n)) h) := by
  intro a w hev hw
  refine .inl ⟨_, w, ?_, Same.refl w, rfl, hw.symm⟩
  cases op <;> simp at hop <;> simp [execOp, ho, hev x _ hx, hev y _ hy, eqGuard, binOp, Op.intCmp, icmp]

theorem opv_not {t : TypeId} {x : Operand} {b : Bool} (ho : o.op = .unOp .not t x) (hx : φ.ev x = some (.bool b)) : OpV P φ o h (Det (.bool (!b)) h) := by
  intro a w hev hw
  exact .inl ⟨_, w, by simp [execOp, ho, hev x _ hx, Op.unary], Same.refl w, rfl, hw.symm⟩
theorem opv_ineg {t : TypeId} {x : Operand} {k : IntKind} {n : Int} (ho : o.op = .unOp .neg t x) (hx : φ.ev x = some (.int k n)) : OpV P φ o h (Det (.int k (k.wrap (0 - n))) h) := by
  intro a w hev hw
  exact .inl ⟨_, w, by simp [execOp, ho, hev x _ hx, Op.unary, Op.intArith], Same.refl w, rfl, hw.symm⟩

abbrev Flt (k : FloatKind) (x : Option Nat) (h : Heap) : Value → Heap → Prop := fun v h' => IsF k v x ∧ h = h'

theorem Same.drew (w : World) : Same w w.drew := ⟨rfl, rfl, rfl⟩

theorem isF_bits {k : FloatKind} {r : Nat} (hr : r < 2 ^ k.format.width) (hn : (k.format.read r).isNaN = false) : IsF k (.float k r) (some r) := ⟨r, rfl, hr, cls_some.2 ⟨rfl, hn⟩⟩

theorem opv_fop {op : BinOp} {t t' : TypeId} {x y : Operand} {k : FloatKind} {u v : Value} {m n : Option Nat} (ho : o.op = .binOp op t x y t') (hop : (match op with | .add | .sub | .mul | .quo => true | _ => false) = true) (hx : φ.ev x = some u) (hy : φ.ev y = some v)
    (hu : IsF k u m) (hv : IsF k v n) : OpV P φ o h (Flt k (fop op k m n) h) := by
  intro a w hev hw
  obtain ⟨b, rfl, _, rfl⟩ := hu
  obtain ⟨c, rfl, _, rfl⟩ := hv
  rw [fop_cls]
  cases hb : floatBits op k b c with
  | some r =>
    refine .inl ⟨.float k r, w, ?_, Same.refl w, isF_bits (floatBits_lt hb) (floatBits_nan hb).1, hw.symm⟩
    have : (Op.floatArith op k b c).run P w = .ok (.float k r) w := run_floatArith w hb
    cases op <;> simp at hop <;> simp [execOp, ho, hev x _ hx, hev y _ hy, eqGuard, binOp, this]
  | none =>
    have hc := nan_cut b c (w.tape w.drawn (.nanBits k b c)) k (.nanBits k b c) (.inl rfl)
    refine .inl ⟨.float k ((Question.nanBits k b c).cut (w.tape w.drawn (.nanBits k b c))), w.drew, ?_, Same.drew w, ⟨_, rfl, hc.1, hc.2⟩, hw.symm⟩
    have : (Op.floatArith op k b c).run P w = .ok (.float k ((Question.nanBits k b c).cut (w.tape w.drawn (.nanBits k b c)))) w.drew := by
      unfold floatBits at hb
      cases op <;> simp at hop <;> simp only at hb <;> simp [Op.floatArith, hb, Question.forced]
    cases op <;> simp at hop <;> simp [execOp, ho, hev x _ hx, hev y _ hy, eqGuard, binOp, this]

theorem order_cls (k : FloatKind) (a b : Nat) : k.format.order a b = ford k (cls k a) (cls k b) := by
  unfold ford
  cases ha : cls k a with
  | none =>
    have := read_nan_none.1 ha
    obtain ⟨s, t, e⟩ := datum_nan this
    simp [Ieee.Format.order, e, Ieee.Datum.order]
  | some x =>
    have hx := (cls_some.1 ha).1
    cases hb : cls k b with
    | none =>
      have := read_nan_none.1 hb
      obtain ⟨s, t, e⟩ := datum_nan this
      simp only [Ieee.Format.order, e]
      cases k.format.read a <;> rfl
    | some y =>
      have hy := (cls_some.1 hb).1
      subst hx; subst hy; rfl

def fcmp (op : BinOp) (k : FloatKind) (x y : Option Nat) : Bool := match op with
  | .eql => feq k x y | .neq => !feq k x y | .lss => flt k x y | .leq => fle k x y | .gtr => ford k x y == some .gt | .geq => ford k x y == some .gt || ford k x y == some .eq | _ => false

theorem opv_fcmp {op : BinOp} {t t' : TypeId} {x y : Operand} {k : FloatKind} {u v : Value} {m n : Option Nat} (ho : o.op = .binOp op t x y t') (hop : (match op with | .eql | .neq | .lss | .leq | .gtr | .geq => true | _ => false) = true) (hx : φ.ev x = some u) (hy : φ.ev y = some v)
    (hu : IsF k u m) (hv : IsF k v n) : OpV P φ o h (Det (.bool (fcmp op k m n)) h) := by
  intro a w hev hw
  obtain ⟨b, rfl, _, rfl⟩ := hu
  obtain ⟨c, rfl, _, rfl⟩ := hv
  refine .inl ⟨_, w, ?_, Same.refl w, rfl, hw.symm⟩
  cases op <;> simp at hop <;> simp [execOp, ho, hev x _ hx, hev y _ hy, eqGuard, binOp, Op.floatCmp, fcmp, feq, flt, fle, order_cls] <;> rfl

theorem negFloat_lt (k : FloatKind) {b : Nat} (hb : b < 2 ^ k.format.width) : Op.negFloat k b < 2 ^ k.format.width := by
  unfold Op.negFloat
  refine Nat.xor_lt_two_pow hb ?_
  refine Nat.pow_lt_pow_right (by decide) ?_
  unfold Ieee.Format.width
  omega

theorem read_isNaN (k : FloatKind) (b : Nat) : (k.format.read b).isNaN = decide (k.format.infRung < b % k.format.signWeight) := by
  have hb : k.format.binade ≤ k.format.infRung := by cases k <;> decide
  unfold Ieee.Format.read
  dsimp only
  split
  · rename_i h1; simp [Ieee.Datum.isNaN]; omega
  · split
    · rename_i h1; simp [Ieee.Datum.isNaN]; omega
    · split
      · rename_i h1; simp [Ieee.Datum.isNaN]; omega
      · rename_i h1 h2 h3; simp [Ieee.Datum.isNaN]; omega

theorem negFloat_mod (k : FloatKind) (b : Nat) : Op.negFloat k b % k.format.signWeight = b % k.format.signWeight := by
  unfold Op.negFloat Ieee.Format.signWeight
  rw [Nat.xor_mod_two_pow]
  simp

theorem fneg_cls (k : FloatKind) (b : Nat) : cls k (Op.negFloat k b) = fneg k (cls k b) := by
  unfold cls fneg
  rw [read_isNaN, read_isNaN, negFloat_mod]
  split <;> rfl

theorem opv_fneg {t : TypeId} {x : Operand} {k : FloatKind} {u : Value} {m : Option Nat} (ho : o.op = .unOp .neg t x) (hx : φ.ev x = some u) (hu : IsF k u m) : OpV P φ o h (Flt k (fneg k m) h) := by
  intro a w hev hw
  obtain ⟨b, rfl, hb, rfl⟩ := hu
  exact .inl ⟨_, w, by simp [execOp, ho, hev x _ hx, Op.unary], Same.refl w, ⟨_, rfl, negFloat_lt k hb, fneg_cls k b⟩, hw.symm⟩

theorem opv_i2i {src dst : TypeId} {x : Operand} {k j : IntKind} {n : Int} (ho : o.op = .convert src dst x) (hs : (P.underlying src).isSome = true) (hd : P.underlying dst = some (.int j)) (hx : φ.ev x = some (.int k n)) : OpV P φ o h (Det (.int j (j.wrap n)) h) := by
  intro a w hev hw
  obtain ⟨u, hs'⟩ := Option.isSome_iff_exists.1 hs
  refine .inl ⟨_, w, ?_, Same.refl w, rfl, hw.symm⟩
  cases u <;> simp [execOp, ho, hev x _ hx, convert, run_underlying hs', run_underlying hd, Conv.intToInt]

theorem opv_i2f {src dst : TypeId} {x : Operand} {k : IntKind} {j : FloatKind} {n : Int} (ho : o.op = .convert src dst x) (hs : (P.underlying src).isSome = true) (hd : P.underlying dst = some (.float j)) (hx : φ.ev x = some (.int k n)) : OpV P φ o h (Flt j (fofi j n) h) := by
  intro a w hev hw
  obtain ⟨u, hs'⟩ := Option.isSome_iff_exists.1 hs
  refine .inl ⟨.float j (j.nearest n), w, ?_, Same.refl w, ⟨_, rfl, j.format.write_lt (.number (n < 0) n.natAbs 0), cls_write j (d := .number (n < 0) n.natAbs 0) rfl⟩, hw.symm⟩
  cases u <;> simp [execOp, ho, hev x _ hx, convert, run_underlying hs', run_underlying hd, Conv.intToFloat]

theorem opv_f2i {src dst : TypeId} {x : Operand} {s : FloatKind} {k : IntKind} {u : Value} {m : Option Nat} {n : Int} (ho : o.op = .convert src dst x) (hs : (P.underlying src).isSome = true) (hd : P.underlying dst = some (.int k)) (hx : φ.ev x = some u) (hu : IsF s u m) (hn : ftoi s k m = some n) :
    OpV P φ o h (Det (.int k n) h) := by
  intro a w hev hw
  obtain ⟨b, rfl, _, rfl⟩ := hu
  refine .inl ⟨.int k n, w, ?_, Same.refl w, rfl, hw.symm⟩
  have : floatToIntVal s b k = some n := by
    unfold ftoi at hn
    cases hc : cls s b with
    | none => rw [hc] at hn; cases hn
    | some c => rw [hc] at hn; rw [← (cls_some.1 hc).1]; exact hn
  have h2 := run_convert_float_int (P := P) w src dst s k b n hs hd this
  simp [execOp, ho, hev x _ hx, h2]

theorem opv_f2f {src dst : TypeId} {x : Operand} {s j : FloatKind} {u : Value} {m r : Option Nat} (ho : o.op = .convert src dst x) (hs : (P.underlying src).isSome = true) (hd : P.underlying dst = some (.float j)) (hsj : s ≠ j) (hx : φ.ev x = some u) (hu : IsF s u m) (hr : fcv s j m = some r) :
    OpV P φ o h (Flt j r h) := by
  intro a w hev hw
  obtain ⟨b, rfl, hb, rfl⟩ := hu
  obtain ⟨du, hs'⟩ := Option.isSome_iff_exists.1 hs
  cases hc : cls s b with
  | none =>
    rw [hc] at hr
    simp only [fcv, Option.some.injEq] at hr
    subst hr
    obtain ⟨sg, t, e⟩ := datum_nan (read_nan_none.1 hc)
    have hcut := nan_cut b 0 (w.tape w.drawn (.nanConv j b)) j (.nanConv j b) (.inr rfl)
    refine .inl ⟨.float j ((Question.nanConv j b).cut (w.tape w.drawn (.nanConv j b))), w.drew, ?_, Same.drew w, ⟨_, rfl, hcut.1, hcut.2⟩, hw.symm⟩
    have e' : s.decode b = .nan sg t := e
    cases du <;> simp [execOp, ho, hev x _ hx, convert, run_underlying hs', run_underlying hd, Conv.floatToFloat, hsj, e', Question.forced]
  | some c =>
    have hcb := (cls_some.1 hc).1
    subst hcb
    rw [hc] at hr
    simp only [fcv] at hr
    cases hf : floatToFloatBits s c j with
    | none => rw [hf] at hr; cases hr
    | some q =>
      rw [hf] at hr
      simp only [Option.map_some, Option.some.injEq] at hr
      subst hr
      have h2 := run_convert_float_float (P := P) w src dst s j c q hs hd hf
      have hq : q < 2 ^ j.format.width ∧ (j.format.read q).isNaN = false := by
        unfold floatToFloatBits at hf
        rw [if_neg hsj] at hf
        split at hf
        · cases hf
        · cases hf; exact ⟨j.format.write_lt _, not_nan_write _ rfl⟩
        · split at hf
          · cases hf
          · cases hf; exact ⟨j.format.write_lt _, not_nan_write _ rfl⟩
      exact .inl ⟨.float j q, w, by simp [execOp, ho, hev x _ hx, h2], Same.refl w, isF_bits hq.1 hq.2, hw.symm⟩

theorem opv_same_float {src dst : TypeId} {x : Operand} {s : FloatKind} {u : Value} {m : Option Nat} (ho : o.op = .convert src dst x) (hs : (P.underlying src).isSome = true) (hd : P.underlying dst = some (.float s)) (hx : φ.ev x = some u) (hu : IsF s u m) : OpV P φ o h (Det u h) := by
  intro a w hev hw
  obtain ⟨b, rfl, hb, rfl⟩ := hu
  obtain ⟨du, hs'⟩ := Option.isSome_iff_exists.1 hs
  refine .inl ⟨.float s b, w, ?_, Same.refl w, rfl, hw.symm⟩
  cases du <;> simp [execOp, ho, hev x _ hx, convert, run_underlying hs', run_underlying hd, Conv.floatToFloat]
end
end Go.H
