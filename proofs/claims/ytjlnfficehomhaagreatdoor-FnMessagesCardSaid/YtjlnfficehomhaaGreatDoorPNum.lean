/- Small laws of loops, places and comparisons. -/
import Derived.Test.YtjlnfficehomhaaGreatDoorP0
set_option linter.unusedVariables false
namespace Go.H
open Go Ieee

theorem loopF_upto {S E : Type} {step : S → Option (S ⊕ E)} (P : Nat → S) (n : Nat) (h : ∀ k, k < n → step (P k) = some (.inl (P (k + 1)))) : loopF step (P 0) = loopF step (P n) := by
  induction n with
  | zero => rfl
  | succ n ih => rw [ih (fun k hk => h k (by omega)), loopF_next (h n (by omega))]

theorem idx_nat {α : Type} (l : List α) (k : Nat) : idx l (k : Int) = l[k]? := by
  unfold idx; rw [if_pos (by omega), Int.toNat_natCast]

theorem wrap_small {n : Int} (h0 : -9223372036854775808 ≤ n) (h1 : n ≤ 9223372036854775807) : IntKind.wrap .i64 n = n := by
  unfold IntKind.wrap
  show (if (true && decide (n % 18446744073709551616 ≥ 9223372036854775808)) = true then n % 18446744073709551616 - 18446744073709551616 else n % 18446744073709551616) = n
  simp only [Bool.true_and, decide_eq_true_eq]
  split <;> omega

theorem setF_nat {α : Type} {l : List α} {k : Nat} (h : k < l.length) (z : α) : setF l (k : Int) z = some (l.set k z) := by
  unfold setF; rw [Int.toNat_natCast, if_pos ⟨by omega, h⟩]

theorem fill_set {α : Type} (l : List α) (z : α) (k : Nat) (h : k < l.length) : (l.take k ++ List.replicate (l.length - k) z).set k l[k] = l.take (k + 1) ++ List.replicate (l.length - (k + 1)) z := by
  have e1 : (l.take k).length = k := by simp; omega
  rw [List.set_append_right _ _ (by omega), e1, Nat.sub_self]
  have e2 : l.length - k = (l.length - (k + 1)) + 1 := by omega
  rw [e2, List.replicate_succ, List.set_cons_zero, List.take_succ_eq_append_getElem h, List.append_assoc]
  rfl

/-- a loop over places that asks the same of each -/
theorem loop_all {step : Bool × Int → Option ((Bool × Int) ⊕ ((Bool × Int × Bool) ⊕ Bool))} {n : Nat} (bad : Nat → Bool) (b : Bool)
    (hs : ∀ k, k < n → step (b, (k : Int)) = some (if bad k then .inr (.inr false) else .inl (b, ((k + 1 : Nat) : Int)))) (he : ∃ e, step (b, (n : Int)) = some (.inr (.inl e))) :
    (∃ e, loopF step (b, 0) = some (.inl e) ∧ ∀ k, k < n → bad k = false) ∨ (loopF step (b, 0) = some (.inr false) ∧ ∃ k, k < n ∧ bad k = true) := by
  have key : ∀ m, m ≤ n → (∀ k, k < n - m → bad k = false) → (∃ e, loopF step (b, ((n - m : Nat) : Int)) = some (.inl e) ∧ ∀ k, k < n → bad k = false) ∨ (loopF step (b, ((n - m : Nat) : Int)) = some (.inr false) ∧ ∃ k, k < n ∧ bad k = true) := by
    intro m
    induction m with
    | zero =>
      intro _ hb
      obtain ⟨e, he⟩ := he
      exact .inl ⟨e, loopF_stop he, fun k hk => hb k (by omega)⟩
    | succ m ih =>
      intro hm hb
      have h1 := hs (n - (m + 1)) (by omega)
      cases hk : bad (n - (m + 1)) with
      | true =>
        rw [hk] at h1
        exact .inr ⟨loopF_stop h1, _, by omega, hk⟩
      | false =>
        rw [hk] at h1
        have e1 : n - (m + 1) + 1 = n - m := by omega
        rw [e1] at h1
        rw [loopF_next h1]
        exact ih (by omega) (fun k hk' => by
          by_cases h : k = n - (m + 1)
          · rw [h]; exact hk
          · exact hb k (by omega))
  have := key n (Nat.le_refl _) (fun k hk => by omega)
  rw [Nat.sub_self] at this
  exact this

theorem ite_andB (b c : Bool) : (if b = true then some c else some false) = some (b && c) := by cases b <;> rfl
theorem ite_orB (b c : Bool) : (if b = true then some true else some c) = some (b || c) := by cases b <;> rfl

/-- a number that is compared with nought is compared with each number -/
theorem gtr_leq {x : Option Nat} {c : Nat} (hc : ∃ s m p, single.read c = .number s m p) (hg : fcmp .geq .f32 x (some 0) = true) : fcmp .gtr .f32 x (some c) = !fcmp .leq .f32 x (some c) := by
  cases x with
  | none => cases hg
  | some b =>
    have hb : (single.read b).isNaN = false := by
      cases hr : single.read b with
      | nan s t =>
        have : ford .f32 (some b) (some 0) = none := by
          show (single.read b).order _ = none
          rw [hr]; rfl
        have hg' : (ford .f32 (some b) (some 0) == some .gt || ford .f32 (some b) (some 0) == some .eq) = true := hg
        rw [this] at hg'; cases hg'
      | number _ _ _ => rfl
      | infinity _ => rfl
    have : ∃ o, ford .f32 (some b) (some c) = some o := by
      obtain ⟨s, m, p, hc⟩ := hc
      show ∃ o, (single.read b).order (single.read c) = some o
      rw [hc]
      revert hb
      cases single.read b with
      | nan _ _ => intro hb; cases hb
      | number _ _ _ => intro _; exact ⟨_, rfl⟩
      | infinity _ => intro _; exact ⟨_, rfl⟩
    obtain ⟨o, ho⟩ := this
    show (ford .f32 (some b) (some c) == some .gt) = (!(ford .f32 (some b) (some c) == some .lt || ford .f32 (some b) (some c) == some .eq))
    rw [ho]
    cases o <;> rfl

end Go.H
