/- Points of the unit circle: a table of what they are worth, and how they stand to one another. -/
import Derived.Test.YtmgoblppedmdhaaPPh
import Derived.Test.YtmgoblppedmdhaaPSum
set_option linter.unusedVariables false
namespace Go.H
open Go Ieee

/-- points at j / n turns (the second list: turned the other way), in units of 2^-26 -/
def pTab : List (List (List (Int × Int))) := [
  [[(67108864, 0)],
   [(67108864, 0), (-67108864, 0)],
   [(67108864, 0), (-33554432, 58117980), (-33554432, -58117980)],
   [(67108864, 0), (0, 67108864), (-67108864, 0), (0, -67108864)],
   [(67108864, 0), (20737780, 63824324), (-54292212, 39445600), (-54292212, -39445600), (20737780, -63824324)],
   [(67108864, 0), (33554432, 58117980), (-33554432, 58117980), (-67108864, 0), (-33554432, -58117980), (33554432, -58117980)],
   [(67108864, 0), (41841692, 52467824), (-14933127, 65426304), (-60462996, 29117444), (-60462996, -29117444), (-14933127, -65426304), (41841692, -52467824)],
   [(67108864, 0), (47453132, 47453132), (0, 67108864), (-47453132, 47453132), (-67108864, 0), (-47453132, -47453132), (0, -67108864), (47453132, -47453132)],
   [(67108864, 0), (51408372, 43136748), (11653332, 66089328), (-33554432, 58117980), (-63061704, 22952584), (-63061704, -22952584), (-33554432, -58117980), (11653332, -66089328), (51408372, -43136748)],
   [(67108864, 0), (54292212, 39445600), (20737780, 63824324), (-20737780, 63824324), (-54292212, 39445600), (-67108864, 0), (-54292212, -39445600), (-20737780, -63824324), (20737780, -63824324), (54292212, -39445600)]],
  [[(67108864, 0)],
   [(67108864, 0), (-67108864, 0)],
   [(67108864, 0), (-33554432, -58117980), (-33554432, 58117980)],
   [(67108864, 0), (0, -67108864), (-67108864, 0), (0, 67108864)],
   [(67108864, 0), (20737780, -63824324), (-54292212, -39445600), (-54292212, 39445600), (20737780, 63824324)],
   [(67108864, 0), (33554432, -58117980), (-33554432, -58117980), (-67108864, 0), (-33554432, 58117980), (33554432, 58117980)],
   [(67108864, 0), (41841692, -52467824), (-14933127, -65426304), (-60462996, -29117444), (-60462996, 29117444), (-14933127, 65426304), (41841692, 52467824)],
   [(67108864, 0), (47453132, -47453132), (0, -67108864), (-47453132, -47453132), (-67108864, 0), (-47453132, 47453132), (0, 67108864), (47453132, 47453132)],
   [(67108864, 0), (51408372, -43136748), (11653332, -66089328), (-33554432, -58117980), (-63061704, -22952584), (-63061704, 22952584), (-33554432, 58117980), (11653332, 66089328), (51408372, 43136748)],
   [(67108864, 0), (54292212, -39445600), (20737780, -63824324), (-20737780, -63824324), (-54292212, -39445600), (-67108864, 0), (-54292212, 39445600), (-20737780, 63824324), (20737780, 63824324), (54292212, 39445600)]]]
def pT (neg : Bool) (n j : Nat) : Int × Int := ((pTab.getD neg.toNat []).getD (n - 1) []).getD j (0, 0)
noncomputable def pOK (neg : Bool) (n j : Nat) : Bool := match phC neg n j with
  | some p => valf .f32 p.1 == some ((pT neg n j).1 * 2 ^ 2374) && valf .f32 p.2 == some ((pT neg n j).2 * 2 ^ 2374)
  | none => false
set_option maxRecDepth 100000 in
theorem pT_all : ∀ neg : Bool, ∀ n : Nat, n < 10 → ∀ j : Nat, j < n + 1 → pOK neg (n + 1) j = true := by decide +kernel
theorem pT_bd : ∀ neg : Bool, ∀ n : Nat, n < 10 → ∀ j : Nat, j < n + 1 → -(2 ^ 26) ≤ (pT neg (n + 1) j).1 ∧ (pT neg (n + 1) j).1 ≤ 2 ^ 26 ∧ -(2 ^ 26) ≤ (pT neg (n + 1) j).2 ∧ (pT neg (n + 1) j).2 ≤ 2 ^ 26 := by decide +kernel
theorem pT_zero : ∀ n : Nat, n < 10 → pT true (n + 1) 0 = (2 ^ 26, 0) := by decide +kernel
theorem pT_conj : ∀ n : Nat, n < 10 → ∀ j : Nat, j < n → -4 ≤ (pT true (n + 1) (n - j)).1 - (pT true (n + 1) (j + 1)).1 ∧ (pT true (n + 1) (n - j)).1 - (pT true (n + 1) (j + 1)).1 ≤ 4 ∧ -4 ≤ (pT true (n + 1) (n - j)).2 + (pT true (n + 1) (j + 1)).2 ∧ (pT true (n + 1) (n - j)).2 + (pT true (n + 1) (j + 1)).2 ≤ 4 := by decide +kernel
/-- back: points times points turned the other way -/
theorem pT_back : ∀ n : Nat, n < 10 → ∀ i : Nat, i < n + 1 → ∀ k : Nat, k < n + 1 → -(2 ^ 30) ≤ sumN (fun m => (pT true (n + 1) (i * m % (n + 1))).1 * (pT false (n + 1) (k * m % (n + 1))).1 - (pT true (n + 1) (i * m % (n + 1))).2 * (pT false (n + 1) (k * m % (n + 1))).2) (n + 1) - (if i = k then ((n + 1 : Nat) : Int) * 2 ^ 52 else 0) ∧
    sumN (fun m => (pT true (n + 1) (i * m % (n + 1))).1 * (pT false (n + 1) (k * m % (n + 1))).1 - (pT true (n + 1) (i * m % (n + 1))).2 * (pT false (n + 1) (k * m % (n + 1))).2) (n + 1) - (if i = k then ((n + 1 : Nat) : Int) * 2 ^ 52 else 0) ≤ 2 ^ 30 := by decide +kernel
/-- powers: points times points -/
theorem pT_power : ∀ n : Nat, n < 10 → ∀ i : Nat, i < n + 1 → ∀ k : Nat, k < n + 1 → -(2 ^ 30) ≤ sumN (fun m => (pT true (n + 1) (i * m % (n + 1))).1 * (pT true (n + 1) (k * m % (n + 1))).1 + (pT true (n + 1) (i * m % (n + 1))).2 * (pT true (n + 1) (k * m % (n + 1))).2) (n + 1) - (if i = k then ((n + 1 : Nat) : Int) * 2 ^ 52 else 0) ∧
    sumN (fun m => (pT true (n + 1) (i * m % (n + 1))).1 * (pT true (n + 1) (k * m % (n + 1))).1 + (pT true (n + 1) (i * m % (n + 1))).2 * (pT true (n + 1) (k * m % (n + 1))).2) (n + 1) - (if i = k then ((n + 1 : Nat) : Int) * 2 ^ 52 else 0) ≤ 2 ^ 30 := by decide +kernel

/-- a point, by the table -/
theorem pT_has (neg : Bool) {n j : Nat} (h1 : 1 ≤ n) (h2 : n ≤ 10) (hj : j < n) : ∃ p, impl_PhasorOf (if neg = true then fneg .f64 (fop .quo .f64 (fofi .f64 (j : Int)) (fofi .f64 (n : Int))) else fop .quo .f64 (fofi .f64 (j : Int)) (fofi .f64 (n : Int))) = some p ∧ valf .f32 p.1 = some ((pT neg n j).1 * 2 ^ 2374) ∧ valf .f32 p.2 = some ((pT neg n j).2 * 2 ^ 2374) := by
  have h := pT_all neg (n - 1) (by omega) j (by omega)
  rw [show n - 1 + 1 = n by omega] at h
  unfold pOK at h
  cases hp : phC neg n j with
  | none => rw [hp] at h; cases h
  | some p =>
    rw [hp] at h
    have h' : (valf .f32 p.1 == some ((pT neg n j).1 * 2 ^ 2374) && valf .f32 p.2 == some ((pT neg n j).2 * 2 ^ 2374)) = true := h
    rw [Bool.and_eq_true] at h'
    exact ⟨p, phE_ok hp, eq_of_beq h'.1, eq_of_beq h'.2⟩
end Go.H
