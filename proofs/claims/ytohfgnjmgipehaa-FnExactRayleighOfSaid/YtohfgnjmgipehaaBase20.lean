/- A 128-bit complex number made a 64-bit one. -/
import Derived.Test.YtohfgnjmgipehaaBase19
set_option linter.unusedVariables false
namespace Go.H
open Go
section
variable {P : Program} {φ : Fr} {h : Heap} {o : Oper}
theorem opv_cnarrow {src dst : TypeId} {x : Operand} {u : Value} {m : Option Nat × Option Nat} {r1 r2 : Option Nat} (ho : o.op = .convert src dst x) (hs : (P.underlying src).isSome = true) (hd : P.underlying dst = some (.complex .f32)) (hx : φ.ev x = some u) (hu : IsC .f64 u m) (e1 : fcv .f64 .f32 m.1 = some r1) (e2 : fcv .f64 .f32 m.2 = some r2) : OpV P φ o h (Cpx .f32 (r1, r2) h) := by
  intro a w hev hw
  obtain ⟨b, c, rfl, hb, hc, hb2, hc2⟩ := hu
  obtain ⟨du, hs'⟩ := Option.isSome_iff_exists.1 hs
  obtain ⟨q1, w1, g1, s1, t1, l1, c1⟩ := f2f_run (P := P) (s := .f64) (j := .f32) (by decide) (b := b) (by rw [hb2]; exact e1) w
  obtain ⟨q2, w2, g2, s2, t2, l2, c2⟩ := f2f_run (P := P) (s := .f64) (j := .f32) (by decide) (b := c) (by rw [hc2]; exact e2) w1
  refine .inl ⟨.complex .f32 q1 q2, w2, ?_, s1.trans s2, ⟨q1, q2, rfl, l1, l2, c1, c2⟩, by rw [t2, t1]; exact hw.symm⟩
  cases du <;> simp [execOp, ho, hev x _ hx, convert, run_underlying hs', run_underlying hd, Conv.complexToComplex, g1, g2]
end
end Go.H
