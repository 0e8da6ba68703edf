/- Loops over places. -/
import Derived.Test.YtjlnfficehomhaaGreatDoorPNum
set_option linter.unusedVariables false
namespace Go.H
open Go Ieee

/-- a loop over places that asks the same of each; what it leaves is told -/
theorem loop_all' {step : Bool × Int → Option ((Bool × Int) ⊕ ((Bool × Int × Bool) ⊕ Bool))} {n : Nat} (bad : Nat → Bool) (b : Bool) (e : Bool × Int × Bool)
    (hs : ∀ k, k < n → step (b, (k : Int)) = some (if bad k then .inr (.inr false) else .inl (b, ((k + 1 : Nat) : Int)))) (he : step (b, (n : Int)) = some (.inr (.inl e))) :
    loopF step (b, 0) = some (if (List.range n).any bad then .inr false else .inl e) := by
  have key : ∀ m, m ≤ n → (∀ k, k < n - m → bad k = false) → loopF step (b, ((n - m : Nat) : Int)) = some (if (List.range n).any bad then .inr false else .inl e) := by
    intro m
    induction m with
    | zero =>
      intro _ hb
      have : (List.range n).any bad = false := by
        rw [List.any_eq_false]
        intro k hk
        have := hb k (by simpa using hk)
        simp [this]
      rw [this]
      exact loopF_stop he
    | succ m ih =>
      intro hm hb
      have h1 := hs (n - (m + 1)) (by omega)
      cases hk : bad (n - (m + 1)) with
      | true =>
        rw [hk] at h1
        have : (List.range n).any bad = true := List.any_eq_true.2 ⟨_, List.mem_range.2 (by omega), hk⟩
        rw [this]
        exact loopF_stop h1
      | false =>
        rw [hk] at h1
        have e1 : n - (m + 1) + 1 = n - m := by omega
        rw [e1] at h1
        rw [loopF_next h1]
        exact ih (by omega) (fun k hk' => by
          by_cases h : k = n - (m + 1)
          · rw [h]; exact hk
          · exact hb k (by omega))
  have := key n (Nat.le_refl _) (fun k hk => by omega)
  rw [Nat.sub_self] at this
  exact this

theorem loop_ex {St E S : Type} {step : St → Option (St ⊕ E)} (P : S → Nat → St) (I : Nat → S → Prop) (n : Nat) (e : S → E) (s0 : S) (h0 : I 0 s0)
    (hs : ∀ k s, k < n → I k s → ∃ s', step (P s k) = some (.inl (P s' (k + 1))) ∧ I (k + 1) s') (he : ∀ s, I n s → step (P s n) = some (.inr (e s))) :
    ∃ s, loopF step (P s0 0) = some (e s) ∧ I n s := by
  have key : ∀ k, k ≤ n → ∃ s, loopF step (P s0 0) = loopF step (P s k) ∧ I k s := by
    intro k
    induction k with
    | zero => intro _; exact ⟨s0, rfl, h0⟩
    | succ k ih =>
      intro hk
      obtain ⟨s, g1, g2⟩ := ih (by omega)
      obtain ⟨s', g3, g4⟩ := hs k s (by omega) g2
      exact ⟨s', g1.trans (loopF_next g3), g4⟩
  obtain ⟨s, g1, g2⟩ := key n (Nat.le_refl _)
  exact ⟨s, g1.trans (loopF_stop (he s g2)), g2⟩

end Go.H
