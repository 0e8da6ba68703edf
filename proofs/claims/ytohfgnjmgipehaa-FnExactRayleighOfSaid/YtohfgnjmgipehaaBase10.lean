/- Functions of Go's library that have no Go text, and the few over them. -/
import Derived.Test.YtohfgnjmgipehaaBase9
namespace Go.H
open Go

def fsqrt (x : Option Nat) : Option Nat := x.bind fun b => FloatKind.f64.format.sqrt b
def fabs (x : Option Nat) : Option Nat := x.map fun b => b % 2 ^ 63
def fsign (x : Option Nat) : Option Bool := x.map fun b => decide (2 ^ 63 ≤ b)
/-- the bits of a number; of a not-a-number nothing is told -/
def fbits (x : Option Nat) : Option Int := x.map fun b => (b : Int)
/-- the number with these bits -/
def ffrom (k : FloatKind) (n : Int) : Option (Option Nat) := if 0 ≤ n ∧ n.toNat < 2 ^ k.format.width then some (cls k n.toNat) else none

section
variable {P : Program} {φ : Fr} {h : Heap} {o : Oper}

theorem opv_ext {c : Operand} {xs : List Operand} {ts : Array TypeId} {vs : List Value} {f : FuncId} {fn : Func} {e : Array Value → Sem Value} {K : Value → Prop}
    (ho : o.op = .call { callee := .value c, args := xs.toArray, argTypes := ts }) (hc : φ.ev c = some (.func (.func f) #[] #[])) (hx : φ.evs xs vs)
    (hf : P.funcs[f]? = some fn) (hn : (fn.name == "runtime.NumGoroutine") = false) (hb : fn.body.isNone = true) (hn2 : Extern.findNext fn = none) (he : Extern.find fn = some e)
    (hr : ∀ w, ∃ v w', (e vs.toArray).run P w = .ok v w' ∧ Same w w' ∧ w'.heap = w.heap ∧ K v) : OpV P φ o h (fun v h' => K v ∧ h = h') := by
  intro a w hev hw
  obtain ⟨v, w', h1, h2, h3, h4⟩ := hr w
  refine .inl ⟨v, w', ?_, h2, h4, by rw [h3]; exact hw.symm⟩
  have hm : xs.map a.eval = vs := Fr.evs_map hev hx
  have hm' : xs.toArray.map a.eval = vs.toArray := by simp [hm]
  have := run_callFunc_extern (P := P) hf hn hb hn2 he vs.toArray w
  simp [execOp, ho, resolve, hev c _ hc, hm', Deferred.ofValue, invoke, this, h1]

theorem sqrt_run {u : Value} {x : Option Nat} (hu : IsF .f64 u x) (w : World) : ∃ v w', (Extern.MathSqrt.sqrt [u].toArray).run P w = .ok v w' ∧ Same w w' ∧ w'.heap = w.heap ∧ IsF .f64 v (fsqrt x) := by
  obtain ⟨b, rfl, hb, hb2⟩ := hu
  have key : fsqrt x = FloatKind.f64.format.sqrt b := by
    unfold fsqrt
    cases hc : cls .f64 b with
    | some c => rw [← hb2, hc]; rw [(cls_some.1 hc).1]; rfl
    | none =>
      rw [← hb2, hc]
      obtain ⟨s, t, e⟩ := datum_nan (read_nan_none.1 hc)
      simp [Ieee.Format.sqrt, e, Ieee.Datum.root]
  have hrun : Extern.MathSqrt.sqrt [Value.float .f64 b].toArray = (match FloatKind.f64.format.sqrt b with
    | some r => (pure (Value.float .f64 r) : Sem Value)
    | none => do pure (Value.float .f64 (← choose (.nanBits .f64 b b)))) := rfl
  cases hs : FloatKind.f64.format.sqrt b with
  | some r =>
    have hnan : (FloatKind.f64.format.read r).isNaN = false := by
      obtain ⟨d, hd, rfl⟩ := map_write hs
      refine not_nan_write _ ?_
      unfold Ieee.Datum.root at hd
      split at hd
      · cases hd
      · split at hd <;> cases hd; rfl
      · split at hd
        · cases hd; rfl
        · split at hd
          · cases hd
          · cases hd; rfl
    exact ⟨.float .f64 r, w, by rw [hrun, hs]; rfl, Same.refl w, rfl, by rw [key, hs]; exact isF_bits (FloatKind.f64.format.sqrt_lt hs) hnan⟩
  | none =>
    have hc := nan_cut b b (w.tape w.drawn (.nanBits .f64 b b)) .f64 (.nanBits .f64 b b) (.inl rfl)
    exact ⟨_, w.drew, by rw [hrun, hs]; simp [Question.forced], Same.drew w, rfl, _, rfl, hc.1, by rw [hc.2, key, hs]⟩

theorem bits_run {k : FloatKind} {u : Value} {b : Nat} (hu : u = .float k b) (w : World) : ∃ v w', ((match k with | .f32 => Extern.MathFloatBits.float32bits | .f64 => Extern.MathFloatBits.float64bits) [u].toArray).run P w = .ok v w' ∧ Same w w' ∧ w'.heap = w.heap ∧ v = .int (match k with | .f32 => .u32 | .f64 => .u64) b := by
  subst hu
  cases k <;> exact ⟨_, w, rfl, Same.refl w, rfl, rfl⟩

theorem bits32_run {u : Value} {x : Option Nat} {n : Int} (hu : IsF .f32 u x) (hn : fbits x = some n) (w : World) : ∃ v w', (Extern.MathFloatBits.float32bits [u].toArray).run P w = .ok v w' ∧ Same w w' ∧ w'.heap = w.heap ∧ .int .u32 n = v := by
  obtain ⟨b, rfl, _, hb⟩ := hu
  unfold fbits at hn
  cases hx : x with
  | none => rw [hx] at hn; cases hn
  | some c =>
    rw [hx] at hn hb
    have := (cls_some.1 hb).1
    subst this
    cases hn
    exact ⟨_, w, rfl, Same.refl w, rfl, rfl⟩

theorem from32_run {n : Int} {x : Option Nat} (hn : ffrom .f32 n = some x) (w : World) : ∃ v w', (Extern.MathFloatBits.float32frombits [.int .u32 n].toArray).run P w = .ok v w' ∧ Same w w' ∧ w'.heap = w.heap ∧ IsF .f32 v x := by
  unfold ffrom at hn
  split at hn
  · rename_i hb
    cases hn
    exact ⟨_, w, rfl, Same.refl w, rfl, n.toNat, rfl, hb.2, rfl⟩
  · cases hn
theorem from64_run {n : Int} {x : Option Nat} (hn : ffrom .f64 n = some x) (w : World) : ∃ v w', (Extern.MathFloatBits.float64frombits [.int .u64 n].toArray).run P w = .ok v w' ∧ Same w w' ∧ w'.heap = w.heap ∧ IsF .f64 v x := by
  unfold ffrom at hn
  split at hn
  · rename_i hb
    cases hn
    exact ⟨_, w, rfl, Same.refl w, rfl, n.toNat, rfl, hb.2, rfl⟩
  · cases hn
end
end Go.H
