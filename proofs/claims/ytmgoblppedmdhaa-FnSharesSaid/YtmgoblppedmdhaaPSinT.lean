/- Sines at the places of small sheets: what they are worth, and how modes stand to one another. -/
import Derived.Test.YtmgoblppedmdhaaPSineI
import Derived.Test.YtmgoblppedmdhaaPSum
import Derived.Test.YtmgoblppedmdhaaLibH
set_option linter.unusedVariables false
namespace Go.H
open Go Ieee

/-- sines in units of 2^-26, at k / (2 N) turns -/
def sTab : List (List Int) := [
  [0, 58117984, 58117980, 0, (-58117984)],
  [0, 47453132, 67108864, 47453132, 0, 0, (-67108864), 0, 0, 47453132],
  [0, 39445600, 63824324, 63824320, 39445600, 0, (-39445608), 0, (-63824320), (-39445608), 0, 0, 63824328, 0, 0, 0, (-39445608)],
  [0, 33554432, 58117984, 67108864, 58117980, 33554436, 0, 0, (-58117984), (-67108864), (-58117984), 0, 0, 0, 0, 67108864, 58117972, 0, 0, 0, (-58117972), 0, 0, 0, 0, 33554402],
  [0, 29117446, 52467824, 65426304, 65426304, 52467820, 29117444, 0, (-29117454), (-52467820), (-65426308), 0, (-52467820), 0, 0, 29117432, 52467836, 0, 65426308, 0, 29117432, 0, 0, 0, (-65426308), (-65426308), 0, 0, 0, 0, 52467804, 0, 0, 0, 0, 0, (-29117432)]]
def sT (N k : Nat) : Int := (sTab.getD (N - 3) []).getD k 0
def sE (N k : Nat) : Option (Option Nat) := fcv .f64 .f32 (sinWide (wid (fop .quo .f32 (fofi .f32 ((k : Nat) : Int)) (fofi .f32 ((2 * N : Nat) : Int)))))
def sOK (N k : Nat) : Bool := match sE N k with
  | some v => valf .f32 v == some (sT N k * 2 ^ 2374)
  | none => false
set_option maxRecDepth 100000 in
theorem sin_all : ∀ N : Nat, N < 5 → ∀ m : Nat, m < N + 2 → ∀ x : Nat, x < N + 2 → sOK (N + 3) ((m + 1) * (x + 1)) = true := by decide +kernel
theorem sin_small : ∀ N : Nat, N < 5 → ∀ m : Nat, m < N + 2 → ∀ x : Nat, x < N + 2 → -(2 ^ 26) ≤ sT (N + 3) ((m + 1) * (x + 1)) ∧ sT (N + 3) ((m + 1) * (x + 1)) ≤ 2 ^ 26 := by decide +kernel
theorem sin_orth : ∀ N : Nat, N < 5 → ∀ m : Nat, m < N + 2 → ∀ p : Nat, p < N + 2 → m ≠ p → -(2 ^ 32) ≤ sumN (fun x => sT (N + 3) ((m + 1) * (x + 1)) * sT (N + 3) ((p + 1) * (x + 1))) (N + 2) ∧ sumN (fun x => sT (N + 3) ((m + 1) * (x + 1)) * sT (N + 3) ((p + 1) * (x + 1))) (N + 2) ≤ 2 ^ 32 := by decide +kernel
theorem sin_norm : ∀ N : Nat, N < 5 → ∀ m : Nat, m < N + 2 → 3 * 2 ^ 51 ≤ sumN (fun x => sT (N + 3) ((m + 1) * (x + 1)) * sT (N + 3) ((m + 1) * (x + 1))) (N + 2) ∧ sumN (fun x => sT (N + 3) ((m + 1) * (x + 1)) * sT (N + 3) ((m + 1) * (x + 1))) (N + 2) ≤ 2 ^ 54 := by decide +kernel

theorem sin_has {N m x : Nat} (h1 : 3 ≤ N) (h2 : N ≤ 7) (m1 : 1 ≤ m) (m2 : m < N) (x1 : 1 ≤ x) (x2 : x < N) : ∃ v, impl_SineTurns (fop .quo .f32 (fofi .f32 ((m * x : Nat) : Int)) (fofi .f32 ((2 * N : Nat) : Int))) = some v ∧ valf .f32 v = some (sT N (m * x) * 2 ^ 2374) := by
  have h := sin_all (N - 3) (by omega) (m - 1) (by omega) (x - 1) (by omega)
  rw [show N - 3 + 3 = N by omega, show m - 1 + 1 = m by omega, show x - 1 + 1 = x by omega] at h
  rw [sineTurns_eq]
  unfold sOK at h
  show ∃ v, sE N (m * x) = some v ∧ _
  cases hs : sE N (m * x) with
  | none => rw [hs] at h; cases h
  | some v =>
    rw [hs] at h
    exact ⟨v, rfl, eq_of_beq h⟩
end Go.H
