/- Loops as plain functions. -/
namespace Go.H

def runN {S E : Type} (step : S → Option (S ⊕ E)) : Nat → S → Option E
  | 0, _ => none
  | n + 1, s => (step s).bind fun r => match r with
    | .inl s' => runN step n s'
    | .inr e => some e

theorem runN_succ {S E : Type} {step : S → Option (S ⊕ E)} : ∀ (n : Nat) (s : S) (e : E), runN step n s = some e → runN step (n + 1) s = some e
  | 0, _, _, h => by simp [runN] at h
  | n + 1, s, e, h => by
    rw [runN] at h ⊢
    obtain ⟨r, hr, h⟩ := Option.bind_eq_some_iff.1 h
    rw [hr]
    cases r with
    | inl s' => exact runN_succ n s' e h
    | inr x => exact h

theorem runN_add {S E : Type} {step : S → Option (S ⊕ E)} (n : Nat) {s : S} {e : E} (h : runN step n s = some e) : ∀ m, runN step (n + m) s = some e
  | 0 => h
  | m + 1 => runN_succ _ _ _ (runN_add n h m)

theorem runN_one {S E : Type} {step : S → Option (S ⊕ E)} {n m : Nat} {s : S} {e e' : E} (h : runN step n s = some e) (h' : runN step m s = some e') : e = e' := by
  have h1 := runN_add n h m
  have h2 := runN_add m h' n
  rw [Nat.add_comm, h1] at h2
  exact Option.some.inj h2

open Classical in
noncomputable def loopF {S E : Type} (step : S → Option (S ⊕ E)) (s : S) : Option E :=
  if h : ∃ e n, runN step n s = some e then some h.choose else none

theorem loopF_of {S E : Type} {step : S → Option (S ⊕ E)} {n : Nat} {s : S} {e : E} (h : runN step n s = some e) : loopF step s = some e := by
  have hx : ∃ e n, runN step n s = some e := ⟨e, n, h⟩
  unfold loopF
  rw [dif_pos hx]
  obtain ⟨m, hm⟩ := hx.choose_spec
  exact congrArg some (runN_one hm h)

theorem loopF_run {S E : Type} {step : S → Option (S ⊕ E)} {s : S} {e : E} (h : loopF step s = some e) : ∃ n, runN step n s = some e := by
  unfold loopF at h
  split at h
  · rename_i hx
    obtain ⟨m, hm⟩ := hx.choose_spec
    exact ⟨m, by rw [hm]; exact h⟩
  · cases h

theorem loopF_next {S E : Type} {step : S → Option (S ⊕ E)} {s s' : S} (h : step s = some (.inl s')) : loopF step s = loopF step s' := by
  cases hl : loopF step s' with
  | some e =>
    obtain ⟨n, hn⟩ := loopF_run hl
    exact loopF_of (n := n + 1) (by rw [runN, h]; exact hn)
  | none =>
    cases hl2 : loopF step s with
    | none => rfl
    | some e =>
      obtain ⟨n, hn⟩ := loopF_run hl2
      cases n with
      | zero => simp [runN] at hn
      | succ n =>
        rw [runN, h] at hn
        have := loopF_of (n := n) (s := s') hn
        rw [hl] at this
        cases this

theorem loopF_stop {S E : Type} {step : S → Option (S ⊕ E)} {s : S} {e : E} (h : step s = some (.inr e)) : loopF step s = some e :=
  loopF_of (n := 1) (by rw [runN, h]; rfl)

/-- a loop by a measure -/
theorem loopF_meas {S E : Type} {step : S → Option (S ⊕ E)} (I : S → Prop) (R : E → Prop) (μ : S → Nat)
    (h : ∀ s, I s → (∃ s', step s = some (.inl s') ∧ I s' ∧ μ s' < μ s) ∨ (∃ e, step s = some (.inr e) ∧ R e)) : ∀ s, I s → ∃ e, loopF step s = some e ∧ R e := by
  intro s hs
  generalize hn : μ s = n
  induction n using Nat.strongRecOn generalizing s with
  | _ n ih =>
    rcases h s hs with ⟨s', h1, h2, h3⟩ | ⟨e, h1, h2⟩
    · obtain ⟨e, he, hr⟩ := ih (μ s') (by omega) s' h2 rfl
      exact ⟨e, by rw [loopF_next h1]; exact he, hr⟩
    · exact ⟨e, loopF_stop h1, h2⟩

/-- wrapping -/
abbrev w64 (x : Int) : Int := (x + 9223372036854775808) % 18446744073709551616 - 9223372036854775808
end Go.H
