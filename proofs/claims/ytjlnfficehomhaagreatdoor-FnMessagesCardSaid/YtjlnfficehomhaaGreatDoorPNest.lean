/- Loops over rows, and over the cells of each. -/
import Derived.Test.YtjlnfficehomhaaGreatDoorPFold
set_option linter.unusedVariables false
namespace Go.H
open Go Ieee

theorem nest_fold {S O I EO EI : Type} {w h : Nat} {step0 : O → Option (O ⊕ EO)} {step1 : Nat → I → Option (I ⊕ EI)} (P0 : S → Nat → O) (P1 : S → Nat → I) (e0 : S → EO) (e1 : S → EI) (f : Nat → S → S) (Inv : Nat → S → Prop)
    (h1 : ∀ y, y < h → ∀ x, x < w → ∀ s, Inv (x + w * y) s → step1 y (P1 s x) = some (.inl (P1 (f (x + w * y) s) (x + 1))) ∧ Inv (x + w * y + 1) (f (x + w * y) s))
    (h1e : ∀ y, y < h → ∀ s, Inv (w + w * y) s → step1 y (P1 s w) = some (.inr (e1 s)))
    (h0 : ∀ y, y < h → ∀ s s', loopF (step1 y) (P1 s 0) = some (e1 s') → step0 (P0 s y) = some (.inl (P0 s' (y + 1))))
    (h0e : ∀ s, Inv (w * h) s → step0 (P0 s h) = some (.inr (e0 s))) (s0 : S) (hI : Inv 0 s0) :
    loopF step0 (P0 s0 0) = some (e0 (foldN f (w * h) s0)) ∧ Inv (w * h) (foldN f (w * h) s0) := by
  have J : ∀ y, y < h → ∀ s, Inv (w * y) s → loopF (step1 y) (P1 s 0) = some (e1 (foldN (fun x => f (x + w * y)) w s)) ∧ Inv (w * y + w) (foldN (fun x => f (x + w * y)) w s) := by
    intro y hy s hs
    have := loop_fold (step := step1 y) P1 (fun x => f (x + w * y)) (fun k s => Inv (k + w * y) s) w e1 s (by simpa using hs) (fun k s hk hI => by
      obtain ⟨c1, c2⟩ := h1 y hy k hk s hI
      exact ⟨c1, by rw [show k + 1 + w * y = k + w * y + 1 by omega]; exact c2⟩) (fun s hI => h1e y hy s hI)
    rw [Nat.add_comm w (w * y)] at this
    exact this
  have B := loop_fold (step := step0) P0 (fun y t => foldN (fun x => f (x + w * y)) w t) (fun y s => Inv (w * y) s) h e0 s0 (by simpa using hI) (fun y s hy hI => by
    obtain ⟨j1, j2⟩ := J y hy s hI
    exact ⟨h0 y hy s _ j1, by rw [Nat.mul_succ]; exact j2⟩) h0e
  rw [foldN_rows] at B
  exact B

/-- what stands at the rim does nothing -/
theorem foldN_rim {S : Type} (g : Nat → S → S) (n : Nat) (h0 : ∀ t, g 0 t = t) (h1 : ∀ t, g (n + 1) t = t) (t : S) : foldN g (n + 2) t = foldN (fun k => g (k + 1)) n t := by
  show g (n + 1) (foldN g (n + 1) t) = _
  rw [h1, Nat.add_comm n 1, foldN_add]
  show foldN (fun k => g (1 + k)) n (g 0 (foldN g 0 t)) = _
  rw [h0]
  exact foldN_congr n t fun k s _ => by rw [Nat.add_comm]

end Go.H
