/- Points of the unit circle at shares of turns: what they are worth. -/
import Derived.Test.YtmgoblppedmdhaaPPhasorI
import Derived.Test.YtmgoblppedmdhaaLibH
set_option linter.unusedVariables false
namespace Go.H
open Go Ieee

/-- the point, reckoned -/
noncomputable def phE (x : Option Nat) : Option (Option Nat × Option Nat) :=
  if (fin .f64 x && !fcmp .geq .f64 (fabs x) (some 4841369599423283200)) = true then
    (impl_fraction x).bind fun f0 => (runN (fun (s : ((Option Nat) × Int)) => impl_PhasorOf.s0 s.1 s.2) 6 (f0, 0)).bind fun e =>
      let c0 := fop .sub .f64 (some 4598175219545276416) e.1
      if (fin .f64 c0 && (!fcmp .geq .f64 (fabs c0) (some 4841369599423283200) && (fin .f64 e.1 && !fcmp .geq .f64 (fabs e.1) (some 4841369599423283200)))) = true then
        let c := sinWide c0
        let s := sinWide e.1
        let p : Option Nat × Option Nat := if (e.2.1 == 1) = true then (fop .sub .f64 (some 0) s, c) else if (e.2.1 == 2) = true then (fop .sub .f64 (some 0) c, fop .sub .f64 (some 0) s) else if (e.2.1 == 3) = true then (s, fop .sub .f64 (some 0) c) else (c, s)
        (fcv .f64 .f32 p.1).bind fun a => (fcv .f64 .f32 p.2).bind fun b => some (a, b)
      else none
  else none

theorem phE_ok {x : Option Nat} {r : Option Nat × Option Nat} (h : phE x = some r) : impl_PhasorOf x = some r := by
  unfold phE at h
  split at h
  · rename_i h1
    simp only [Bool.and_eq_true, Bool.not_eq_true'] at h1
    obtain ⟨f0, hf0, h⟩ := Option.bind_eq_some_iff.1 h
    obtain ⟨e, he, h⟩ := Option.bind_eq_some_iff.1 h
    dsimp only at h
    split at h
    · rename_i h2
      simp only [Bool.and_eq_true, Bool.not_eq_true'] at h2
      have s1 := impl_sine_eq h2.1 h2.2.1
      have s2 := impl_sine_eq h2.2.2.1 h2.2.2.2
      have hl := loopF_of he
      obtain ⟨f, q, bb⟩ := e
      simp only at h s1 s2
      unfold impl_PhasorOf impl_isFinite64
      rw [fin_eql, h1.1]
      simp only [some_bind', Bool.not_true, Bool.false_eq_true, if_false, math_Abs, h1.2, hf0, hl, s1, s2, ite_some]
      revert h
      cases q == 1 <;> cases q == 2 <;> cases q == 3 <;> intro h <;> exact h
    · cases h
  · cases h

/-- the point at the share j / n of a turn, turned the other way where 'neg' says so -/
noncomputable def phC (neg : Bool) (n j : Nat) : Option (Option Nat × Option Nat) :=
  phE (if neg = true then fneg .f64 (fop .quo .f64 (fofi .f64 (j : Int)) (fofi .f64 (n : Int))) else fop .quo .f64 (fofi .f64 (j : Int)) (fofi .f64 (n : Int)))
noncomputable def phR (neg : Bool) (n j : Nat) : Int := match phC neg n j with | some p => (valf .f32 p.1).getD 0 / 4 | none => 0
noncomputable def phI (neg : Bool) (n j : Nat) : Int := match phC neg n j with | some p => (valf .f32 p.2).getD 0 / 4 | none => 0
/-- both parts are numbers, fourfold of what is told, at most a little more than 1 -/
noncomputable def phOK (neg : Bool) (n j : Nat) : Bool := match phC neg n j with
  | some p => valf .f32 p.1 == some (4 * phR neg n j) && (valf .f32 p.2 == some (4 * phI neg n j) && (decide (-(2 ^ 2398 + 2 ^ 2370) ≤ phR neg n j) && (decide (phR neg n j ≤ 2 ^ 2398 + 2 ^ 2370) && (decide (-(2 ^ 2398 + 2 ^ 2370) ≤ phI neg n j) && decide (phI neg n j ≤ 2 ^ 2398 + 2 ^ 2370)))))
  | none => false

set_option maxRecDepth 100000 in
theorem ph_all : ∀ neg : Bool, ∀ n : Nat, n < 10 → ∀ j : Nat, j < n + 1 → phOK neg (n + 1) j = true := by decide +kernel

theorem ph_has (neg : Bool) {n j : Nat} (h1 : 1 ≤ n) (h2 : n ≤ 10) (hj : j < n) : ∃ p, impl_PhasorOf (if neg = true then fneg .f64 (fop .quo .f64 (fofi .f64 (j : Int)) (fofi .f64 (n : Int))) else fop .quo .f64 (fofi .f64 (j : Int)) (fofi .f64 (n : Int))) = some p ∧ valf .f32 p.1 = some (4 * phR neg n j) ∧ valf .f32 p.2 = some (4 * phI neg n j) ∧
    -(2 ^ 2398 + 2 ^ 2370) ≤ phR neg n j ∧ phR neg n j ≤ 2 ^ 2398 + 2 ^ 2370 ∧ -(2 ^ 2398 + 2 ^ 2370) ≤ phI neg n j ∧ phI neg n j ≤ 2 ^ 2398 + 2 ^ 2370 := by
  have h := ph_all neg (n - 1) (by omega) j (by omega)
  rw [Nat.sub_add_cancel h1] at h
  unfold phOK at h
  cases hp : phC neg n j with
  | none => rw [hp] at h; cases h
  | some p =>
    rw [hp] at h
    simp only [Bool.and_eq_true, beq_iff_eq, decide_eq_true_eq] at h
    exact ⟨p, phE_ok hp, h⟩
end Go.H
