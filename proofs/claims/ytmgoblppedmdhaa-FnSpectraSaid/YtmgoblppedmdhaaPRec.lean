/- Records of quarters that are drawn. -/
import Derived.Test.YtmgoblppedmdhaaGRec
import Derived.Test.YtmgoblppedmdhaaPSrc
import Derived.Test.YtmgoblppedmdhaaLibH
set_option linter.unusedVariables false
namespace Go.H
open Go Ieee

/-- a quarter: from -2 to 2 -/
def quart (c : Nat) : Option Nat := fop .quo .f32 (fofi .f32 ((c : Int) - 8)) (some 1082130432)
theorem quart_val : ∀ c : Nat, c < 17 → valf .f32 (quart c) = some (((c : Int) - 8) * 2 ^ 2398) := by decide +kernel

theorem record_ok {a : List Int} (hb : ∀ x ∈ a, 0 ≤ x ∧ x ≤ 255) (n : Nat) (hn : n ≤ 100) : ∃ l : List (Option Nat), spec_R8Record a (n : Int) = some l ∧ l.length = n ∧ ∀ v ∈ l, ∃ c, c < 17 ∧ v = quart c := by
  unfold spec_R8Record spec_l00From
  have A := loop_ex (S := Int × Int × List (Option Nat)) (step := fun (s : (Int × (List (Option Nat)) × Int × Int)) => spec_R8Record.s0 a s.1 s.2.1 s.2.2.1 s.2.2.2)
    (fun s k => (((n - k : Nat) : Int), s.2.2, s.1, s.2.1)) (fun k s => k ≤ n ∧ 0 ≤ s.1 ∧ s.1 ≤ 2 * (k : Int) ∧ s.2.2.length = k ∧ ∀ v ∈ s.2.2, ∃ c, c < 17 ∧ v = quart c) n (fun s => (0, false, s.1, s.2.1, s.2.2)) (0, 0, []) ⟨by omega, by simp only; omega, by simp only; omega, rfl, by simp⟩ (fun k s hk hI => by
      obtain ⟨i0, i1, i2, i3, i4⟩ := hI
      obtain ⟨r, p', q, e, a1, a2, a3, a4⟩ := pick_ok hb s.1 s.2.1 17 i1 (by omega)
      obtain ⟨c, rfl⟩ := Int.eq_ofNat_of_zero_le a1
      have hq : fop .quo .f32 (fofi .f32 (IntKind.wrap .i64 ((c : Int) - 8))) (some 1082130432) = quart c := by
        rw [wrap_small (by omega) (by omega)]; rfl
      refine ⟨(p', q, s.2.2 ++ [quart c]), ?_, by omega, by simp only; omega, by simp only; omega, by simp [i3], ?_⟩
      · show spec_R8Record.s0 a (((n - k : Nat) : Int)) s.2.2 s.1 s.2.1 = _
        unfold spec_R8Record.s0
        rw [if_pos (decide_eq_true (show ((n - k : Nat) : Int) > 0 by omega)), e, some_bind', hq, if_pos (by simp; omega), wrap_small (n := ((n - k : Nat) : Int) - 1) (by omega) (by omega)]
        have : ((n - k : Nat) : Int) - 1 = ((n - (k + 1) : Nat) : Int) := by omega
        rw [this]
      · intro v hv
        rcases List.mem_append.1 hv with hv | hv
        · exact i4 v hv
        · exact ⟨c, by omega, List.mem_singleton.1 hv⟩) (fun s hI => by
      show spec_R8Record.s0 a (((n - n : Nat) : Int)) s.2.2 s.1 s.2.1 = _
      unfold spec_R8Record.s0
      have e0 : ((n - n : Nat) : Int) = 0 := by omega
      rw [e0, if_neg (by simp)]
      simp)
  obtain ⟨s, A1, _, _, _, i3, i4⟩ := A
  simp only [Nat.sub_zero] at A1
  simp only [some_bind']
  rw [A1]
  exact ⟨s.2.2, rfl, i3, i4⟩

theorem r8At_ok {a : List Int} (hb : ∀ x ∈ a, 0 ≤ x ∧ x ≤ 255) (i n : Int) (h0 : 0 ≤ i) : ∃ r, laws_r8At a i n = some r ∧ 0 ≤ r ∧ (r < n ∨ r = 0) := by
  unfold laws_r8At
  simp only [ite_orB, some_bind']
  by_cases hc : (decide (n ≤ 1) || decide (i ≥ (a.length : Int))) = true
  · rw [if_pos hc]
    exact ⟨0, rfl, by omega, .inr rfl⟩
  · rw [if_neg hc]
    simp only [Bool.or_eq_true, decide_eq_true_eq, not_or] at hc
    obtain ⟨k, rfl⟩ := Int.eq_ofNat_of_zero_le h0
    have hk : k < a.length := by omega
    have hx := hb a[k] (List.getElem_mem hk)
    rw [idx_nat, List.getElem?_eq_getElem hk, some_bind', if_neg (by omega), wrap_small (n := a[k]) (by omega) (by omega)]
    exact ⟨_, rfl, Int.tmod_nonneg _ (by omega), .inl (Int.tmod_lt_of_pos _ (by omega))⟩
end Go.H
