/- More single operations: constants, complex numbers, bits, the least and the greatest. -/
import Derived.Test.YtohfgnjmgipehaaBase8
import Derived.Test.YtohfgnjmgipehaaWiden
namespace Go.H
open Go

theorem isF_lit (k : FloatKind) (b : Nat) (hb : b < 2 ^ k.format.width) (hn : (k.format.read b).isNaN = false) : IsF k (.float k b) (some b) := isF_bits hb hn
theorem isC_lit (k : FloatKind) (a b : Nat) (ha : a < 2 ^ k.format.width) (hb : b < 2 ^ k.format.width) (hna : (k.format.read a).isNaN = false) (hnb : (k.format.read b).isNaN = false) : IsC k (.complex k a b) (some a, some b) :=
  ⟨a, b, rfl, ha, hb, cls_some.2 ⟨rfl, hna⟩, cls_some.2 ⟨rfl, hnb⟩⟩

def bits (op : BinOp) (k : IntKind) (x y : Int) : Int := match op with
  | .and => k.wrap (BitVec.ofInt k.bits x &&& BitVec.ofInt k.bits y).toNat
  | .or => k.wrap (BitVec.ofInt k.bits x ||| BitVec.ofInt k.bits y).toNat
  | .xor => k.wrap (BitVec.ofInt k.bits x ^^^ BitVec.ofInt k.bits y).toNat
  | .shl => k.wrap (x * 2 ^ (min y.toNat k.bits))
  | .shr => x.fdiv (2 ^ (min y.toNat k.bits))
  | _ => 0

def imin (x y : Int) : Int := if y < x then y else x
def imax (x y : Int) : Int := if y > x then y else x

def cop (op : BinOp) (k : FloatKind) (x y : Option Nat × Option Nat) : Option Nat × Option Nat := (fop op k x.1 y.1, fop op k x.2 y.2)
def ccmp (op : BinOp) (k : FloatKind) (x y : Option Nat × Option Nat) : Bool := match op with
  | .eql => feq k x.1 y.1 && feq k x.2 y.2
  | .neq => !(feq k x.1 y.1 && feq k x.2 y.2)
  | _ => false

/-- the same number in 64 bits -/
def wid (x : Option Nat) : Option Nat := (fcv .f32 .f64 x).getD none
def cwid (x : Option Nat × Option Nat) : Option Nat × Option Nat := (wid x.1, wid x.2)

section
variable {P : Program} {φ : Fr} {h : Heap} {o : Oper}

theorem opv_bits {op : BinOp} {t t' : TypeId} {x y : Operand} {k : IntKind} {m n : Int} (ho : o.op = .binOp op t x y t') (hop : (match op with | .and | .or | .xor => true | _ => false) = true) (hx : φ.ev x = some (.int k m)) (hy : φ.ev y = some (.int k n)) : OpV P φ o h (Det (.int k (bits op k m n)) h) := by
  intro a w hev hw
  refine .inl ⟨_, w, ?_, Same.refl w, rfl, hw.symm⟩
  cases op <;> simp at hop <;> simp [execOp, ho, hev x _ hx, hev y _ hy, eqGuard, binOp, Op.intBits, bits]

theorem opv_shift {op : BinOp} {t t' : TypeId} {x y : Operand} {k j : IntKind} {m n : Int} (ho : o.op = .binOp op t x y t') (hop : (match op with | .shl | .shr => true | _ => false) = true) (hn : 0 ≤ n) (hx : φ.ev x = some (.int k m)) (hy : φ.ev y = some (.int j n)) : OpV P φ o h (Det (.int k (bits op k m n)) h) := by
  intro a w hev hw
  refine .inl ⟨_, w, ?_, Same.refl w, rfl, hw.symm⟩
  have hn' : ¬ n < 0 := by omega
  cases op <;> simp at hop <;> simp [execOp, ho, hev x _ hx, hev y _ hy, eqGuard, binOp, Op.shift, bits, hn']

def bcmp (op : BinOp) (m n : Bool) : Bool := match op with | .eql => m == n | _ => m != n

theorem opv_bcmp {op : BinOp} {t t' : TypeId} {x y : Operand} {m n : Bool} (ho : o.op = .binOp op t x y t') (hop : (match op with | .eql | .neq => true | _ => false) = true) (ht : P.underlying t = some .bool) (hx : φ.ev x = some (.bool m)) (hy : φ.ev y = some (.bool n)) : OpV P φ o h (Det (.bool (bcmp op m n)) h) := by
  intro a w hev hw
  refine .inl ⟨_, w, ?_, Same.refl w, rfl, hw.symm⟩
  have he : (Op.equal t (.bool m) (.bool n)).run P w = .ok (m == n) w := by
    show (Op.equalIn (9999 + 1) t (.bool m) (.bool n)).run P w = _
    unfold Op.equalIn
    simp only [Sem.run_bind, run_underlying ht, Result.andThen_ok]
    rfl
  have h1 : (binOp .eql t (.bool m) (.bool n)).run P w = .ok (.bool (m == n)) w := by
    show (do pure (Value.bool (← Op.equal t (.bool m) (.bool n))) : Sem Value).run P w = _
    simp only [Sem.run_bind, he, Result.andThen_ok]
    rfl
  have h2 : (binOp .neq t (.bool m) (.bool n)).run P w = .ok (.bool (!(m == n))) w := by
    show (do pure (Value.bool (!(← Op.equal t (.bool m) (.bool n)))) : Sem Value).run P w = _
    simp only [Sem.run_bind, he, Result.andThen_ok]
    rfl
  have g1 : ∀ op, (eqGuard op t x y (.bool m) (.bool n)).run P w = .ok () w := fun op => by cases op <;> rfl
  cases op <;> simp at hop
  · simp only [execOp, ho, hev x _ hx, hev y _ hy, Sem.run_bind, g1, Result.andThen_ok, h1]; rfl
  · simp only [execOp, ho, hev x _ hx, hev y _ hy, Sem.run_bind, g1, Result.andThen_ok, h2]; rfl

theorem opv_min2 {x y : Operand} {ts : Array TypeId} {k k' : IntKind} {m n : Int} (ho : o.op = .call { callee := .builtin .min, args := #[x, y], argTypes := ts }) (hx : φ.ev x = some (.int k m)) (hy : φ.ev y = some (.int k' n)) : OpV P φ o h (Det (.int k (imin m n)) h) := by
  intro a w hev hw
  refine .inl ⟨_, w, ?_, Same.refl w, rfl, hw.symm⟩
  simp [execOp, ho, resolve, hev x _ hx, hev y _ hy, invoke, builtin, Builtin.min_, Builtin.min2, imin]
theorem opv_max2 {x y : Operand} {ts : Array TypeId} {k k' : IntKind} {m n : Int} (ho : o.op = .call { callee := .builtin .max, args := #[x, y], argTypes := ts }) (hx : φ.ev x = some (.int k m)) (hy : φ.ev y = some (.int k' n)) : OpV P φ o h (Det (.int k (imax m n)) h) := by
  intro a w hev hw
  refine .inl ⟨_, w, ?_, Same.refl w, rfl, hw.symm⟩
  simp [execOp, ho, resolve, hev x _ hx, hev y _ hy, invoke, builtin, Builtin.max_, Builtin.max2, imax]
theorem opv_min4 {x y z u : Operand} {ts : Array TypeId} {k k' k'' k3 : IntKind} {m n p q : Int} (ho : o.op = .call { callee := .builtin .min, args := #[x, y, z, u], argTypes := ts }) (hx : φ.ev x = some (.int k m)) (hy : φ.ev y = some (.int k' n)) (hz : φ.ev z = some (.int k'' p)) (hu : φ.ev u = some (.int k3 q)) : OpV P φ o h (Det (.int k (imin (imin (imin m n) p) q)) h) := by
  intro a w hev hw
  refine .inl ⟨_, w, ?_, Same.refl w, rfl, hw.symm⟩
  simp [execOp, ho, resolve, hev x _ hx, hev y _ hy, hev z _ hz, hev u _ hu, invoke, builtin, Builtin.min_, Builtin.min2, imin]
  rfl

abbrev Cpx (k : FloatKind) (x : Option Nat × Option Nat) (h : Heap) : Value → Heap → Prop := fun v h' => IsC k v x ∧ h = h'

theorem opv_complex {x y : Operand} {ts : Array TypeId} {k : FloatKind} {u v : Value} {m n : Option Nat} (ho : o.op = .call { callee := .builtin .complex, args := #[x, y], argTypes := ts }) (hx : φ.ev x = some u) (hy : φ.ev y = some v) (hu : IsF k u m) (hv : IsF k v n) : OpV P φ o h (Cpx k (m, n) h) := by
  intro a w hev hw
  obtain ⟨b, rfl, hb, hb2⟩ := hu
  obtain ⟨c, rfl, hc, hc2⟩ := hv
  exact .inl ⟨.complex k b c, w, by simp [execOp, ho, resolve, hev x _ hx, hev y _ hy, invoke, builtin, run_complex], Same.refl w, ⟨b, c, rfl, hb, hc, hb2, hc2⟩, hw.symm⟩
theorem opv_real {x : Operand} {ts : Array TypeId} {k : FloatKind} {u : Value} {m : Option Nat × Option Nat} (ho : o.op = .call { callee := .builtin .real, args := #[x], argTypes := ts }) (hx : φ.ev x = some u) (hu : IsC k u m) : OpV P φ o h (Flt k m.1 h) := by
  intro a w hev hw
  obtain ⟨b, c, rfl, hb, hc, hb2, hc2⟩ := hu
  exact .inl ⟨.float k b, w, by simp [execOp, ho, resolve, hev x _ hx, invoke, builtin, run_real], Same.refl w, ⟨b, rfl, hb, hb2⟩, hw.symm⟩
theorem opv_imag {x : Operand} {ts : Array TypeId} {k : FloatKind} {u : Value} {m : Option Nat × Option Nat} (ho : o.op = .call { callee := .builtin .imag, args := #[x], argTypes := ts }) (hx : φ.ev x = some u) (hu : IsC k u m) : OpV P φ o h (Flt k m.2 h) := by
  intro a w hev hw
  obtain ⟨b, c, rfl, hb, hc, hb2, hc2⟩ := hu
  exact .inl ⟨.float k c, w, by simp [execOp, ho, resolve, hev x _ hx, invoke, builtin, run_imag], Same.refl w, ⟨c, rfl, hc, hc2⟩, hw.symm⟩

/-- '+', '-', '*', '/' of floats, once more: its run -/
def isAr : BinOp → Bool
  | .add | .sub | .mul | .quo => true
  | _ => false

theorem arith_run {op : BinOp} (hop : isAr op = true) (k : FloatKind) (a b : Nat) (w : World) :
    ∃ r w', (Op.floatArith op k a b).run P w = .ok (.float k r) w' ∧ Same w w' ∧ w'.heap = w.heap ∧ r < 2 ^ k.format.width ∧ cls k r = fop op k (cls k a) (cls k b) := by
  rw [fop_cls]
  cases hb : floatBits op k a b with
  | some r => exact ⟨r, w, run_floatArith w hb, Same.refl w, rfl, floatBits_lt hb, cls_some.2 ⟨rfl, (floatBits_nan hb).1⟩⟩
  | none =>
    have hc := nan_cut a b (w.tape w.drawn (.nanBits k a b)) k (.nanBits k a b) (.inl rfl)
    refine ⟨(Question.nanBits k a b).cut (w.tape w.drawn (.nanBits k a b)), w.drew, ?_, Same.drew w, rfl, hc.1, hc.2⟩
    unfold floatBits at hb
    cases op <;> simp [isAr] at hop <;> simp only at hb <;> simp [Op.floatArith, hb, Question.forced]

theorem opv_cop {op : BinOp} {t t' : TypeId} {x y : Operand} {k : FloatKind} {u v : Value} {m n : Option Nat × Option Nat} (ho : o.op = .binOp op t x y t') (hop : (match op with | .add | .sub => true | _ => false) = true) (hx : φ.ev x = some u) (hy : φ.ev y = some v) (hu : IsC k u m) (hv : IsC k v n) : OpV P φ o h (Cpx k (cop op k m n) h) := by
  intro a w hev hw
  obtain ⟨b, c, rfl, _, _, hb2, hc2⟩ := hu
  obtain ⟨d, e, rfl, _, _, hd2, he2⟩ := hv
  have hop' : isAr op = true := by cases op <;> simp at hop <;> rfl
  obtain ⟨r1, w1, h1, s1, e1, l1, c1⟩ := arith_run (P := P) hop' k b d w
  obtain ⟨r2, w2, h2, s2, e2, l2, c2⟩ := arith_run (P := P) hop' k c e w1
  refine .inl ⟨.complex k r1 r2, w2, ?_, s1.trans s2, ⟨r1, r2, rfl, l1, l2, ?_, ?_⟩, by rw [e2, e1]; exact hw.symm⟩
  · cases op <;> simp at hop <;> simp [execOp, ho, hev x _ hx, hev y _ hy, eqGuard, binOp, Op.complexOp, Op.Complex.arith, h1, h2]
  · rw [c1, hb2, hd2]; rfl
  · rw [c2, hc2, he2]; rfl

theorem opv_ccmp {op : BinOp} {t t' : TypeId} {x y : Operand} {k : FloatKind} {u v : Value} {m n : Option Nat × Option Nat} (ho : o.op = .binOp op t x y t') (hop : (match op with | .eql | .neq => true | _ => false) = true) (hx : φ.ev x = some u) (hy : φ.ev y = some v) (hu : IsC k u m) (hv : IsC k v n) : OpV P φ o h (Det (.bool (ccmp op k m n)) h) := by
  intro a w hev hw
  obtain ⟨b, c, rfl, _, _, hb2, hc2⟩ := hu
  obtain ⟨d, e, rfl, _, _, hd2, he2⟩ := hv
  refine .inl ⟨_, w, ?_, Same.refl w, rfl, hw.symm⟩
  cases op <;> simp at hop <;> simp [execOp, ho, hev x _ hx, hev y _ hy, eqGuard, binOp, Op.complexOp, Op.Complex.cmp, Op.floatCmp, ccmp, feq, order_cls, asBool, hb2, hc2, hd2, he2]

theorem opv_loadC {k : FloatKind} {l : List (Option Nat × Option Nat)} {e : Nat} {v : Value} {t : TypeId} {x : Operand} {u : Value} {n : Int} {y : Option Nat × Option Nat} (ho : o.op = .load t x) (ht : oneCellT P t = true) (hx : φ.ev x = some u) (hp : PtI 1 u v n.toNat) (H : SL (kC k) e h v l) (hy : idx l n = some y) : OpV P φ o h (Cpx k y h) :=
  (opv_loadE (K := kC k) ho ht rfl hx hp H (idx_some hy).2.2).mono (by rintro r _ ⟨⟨w, hw, hf⟩, rfl⟩; simp at hw; subst hw; exact ⟨hf, rfl⟩)

theorem fcv_widen {b : Nat} {x : Option Nat} (hx : cls .f32 b = x) : ∃ r, fcv .f32 .f64 x = some r ∧ wid x = r := by
  cases hc : cls .f32 b with
  | none => subst hx; rw [hc]; exact ⟨none, rfl, rfl⟩
  | some c =>
    obtain ⟨rfl, hn⟩ := cls_some.1 hc
    subst hx
    rw [hc]
    obtain ⟨r, hr⟩ := widen_some (b := c) hn
    exact ⟨some r, by simp [fcv, hr], by simp [wid, fcv, hr]⟩

theorem opv_widen {src dst : TypeId} {x : Operand} {u : Value} {m : Option Nat} (ho : o.op = .convert src dst x) (hs : (P.underlying src).isSome = true) (hd : P.underlying dst = some (.float .f64)) (hx : φ.ev x = some u) (hu : IsF .f32 u m) : OpV P φ o h (Flt .f64 (wid m) h) := by
  obtain ⟨b, e1, e2, e3⟩ := hu
  obtain ⟨r, h1, h2⟩ := fcv_widen e3
  rw [h2]
  exact opv_f2f ho hs hd (by decide) hx ⟨b, e1, e2, e3⟩ h1

/-- a conversion of floats, once more: its run -/
theorem f2f_run {s j : FloatKind} (hsj : s ≠ j) {b : Nat} {r : Option Nat} (hr : fcv s j (cls s b) = some r) (w : World) : ∃ q w', (Conv.floatToFloat s b j).run P w = .ok (.float j q) w' ∧ Same w w' ∧ w'.heap = w.heap ∧ q < 2 ^ j.format.width ∧ cls j q = r := by
  cases hc : cls s b with
  | none =>
    rw [hc] at hr
    simp only [fcv, Option.some.injEq] at hr
    subst hr
    obtain ⟨sg, t, e⟩ := datum_nan (read_nan_none.1 hc)
    have hcut := nan_cut b 0 (w.tape w.drawn (.nanConv j b)) j (.nanConv j b) (.inr rfl)
    have e' : s.decode b = .nan sg t := e
    exact ⟨_, w.drew, by simp [Conv.floatToFloat, hsj, e', Question.forced], Same.drew w, rfl, hcut.1, hcut.2⟩
  | some c =>
    have hcb := (cls_some.1 hc).1
    subst hcb
    rw [hc] at hr
    simp only [fcv] at hr
    cases hf : floatToFloatBits s c j with
    | none => rw [hf] at hr; cases hr
    | some q =>
      rw [hf] at hr
      simp only [Option.map_some, Option.some.injEq] at hr
      subst hr
      have hq : q < 2 ^ j.format.width ∧ (j.format.read q).isNaN = false := by
        have hf' := hf
        unfold floatToFloatBits at hf'
        rw [if_neg hsj] at hf'
        split at hf'
        · cases hf'
        · cases hf'; exact ⟨j.format.write_lt _, not_nan_write _ rfl⟩
        · split at hf'
          · cases hf'
          · cases hf'; exact ⟨j.format.write_lt _, not_nan_write _ rfl⟩
      exact ⟨q, w, run_floatToFloat w hf, Same.refl w, rfl, hq.1, cls_some.2 ⟨rfl, hq.2⟩⟩

theorem opv_cwiden {src dst : TypeId} {x : Operand} {u : Value} {m : Option Nat × Option Nat} (ho : o.op = .convert src dst x) (hs : (P.underlying src).isSome = true) (hd : P.underlying dst = some (.complex .f64)) (hx : φ.ev x = some u) (hu : IsC .f32 u m) : OpV P φ o h (Cpx .f64 (cwid m) h) := by
  intro a w hev hw
  obtain ⟨b, c, rfl, hb, hc, hb2, hc2⟩ := hu
  obtain ⟨du, hs'⟩ := Option.isSome_iff_exists.1 hs
  obtain ⟨r1, h1, e1⟩ := fcv_widen hb2
  obtain ⟨r2, h2, e2⟩ := fcv_widen hc2
  obtain ⟨q1, w1, g1, s1, t1, l1, c1⟩ := f2f_run (P := P) (s := .f32) (j := .f64) (by decide) (b := b) (by rw [hb2]; exact h1) w
  obtain ⟨q2, w2, g2, s2, t2, l2, c2⟩ := f2f_run (P := P) (s := .f32) (j := .f64) (by decide) (b := c) (by rw [hc2]; exact h2) w1
  refine .inl ⟨.complex .f64 q1 q2, w2, ?_, s1.trans s2, ⟨q1, q2, rfl, l1, l2, by rw [c1, ← e1]; rfl, by rw [c2, ← e2]; rfl⟩, by rw [t2, t1]; exact hw.symm⟩
  cases du <;> simp [execOp, ho, hev x _ hx, convert, run_underlying hs', run_underlying hd, Conv.complexToComplex, g1, g2]
end
end Go.H
