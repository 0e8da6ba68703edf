/- Copies and comparisons. -/
import Derived.Test.YtjlnfficehomhaaDoorPNum
import Derived.Test.YtjlnfficehomhaaDoorGCopy
set_option linter.unusedVariables false
namespace Go.H
open Go Ieee

theorem toFloat32S_eq (a : List (Option Nat)) (h : a.length ≤ 1000000000) : laws_toFloat32S a = some a := by
  unfold laws_toFloat32S
  rw [if_pos ⟨by omega, by omega⟩, Int.toNat_natCast]
  have st := loopF_upto (step := fun (s : (Int × (List (Option Nat)))) => laws_toFloat32S.s0 a s.1 s.2) (fun k => ((k : Int), a.take k ++ List.replicate (a.length - k) (some 0))) a.length (fun k hk => by
    dsimp only
    unfold laws_toFloat32S.s0
    have hl : k < (a.take k ++ List.replicate (a.length - k) (some 0)).length := by simp; omega
    rw [if_pos (by simp; omega), idx_nat, idx_nat, List.getElem?_eq_getElem hk, List.getElem?_eq_getElem hl]
    simp only [Option.bind_some]
    rw [setF_nat hl, Option.bind_some, fill_set _ _ _ hk, wrap_small (by omega) (by omega)]
    rfl)
  simp only [List.take_zero, Nat.sub_zero, List.nil_append, Nat.sub_self, List.replicate_zero, List.append_nil, List.take_length] at st
  have e0 : ((0 : Nat) : Int) = 0 := rfl
  rw [e0] at st
  rw [st]
  have hs : loopF (fun (s : (Int × (List (Option Nat)))) => laws_toFloat32S.s0 a s.1 s.2) ((a.length : Int), a) = some ((a.length : Int), decide ((a.length : Int) < (a.length : Int)), a) := by
    apply loopF_stop
    show laws_toFloat32S.s0 a (a.length : Int) a = _
    unfold laws_toFloat32S.s0
    rw [if_neg (by simp)]
  rw [hs]
  rfl

theorem eqFloat32S_self (a : List (Option Nat)) (h : a.length ≤ 1000000000) : laws_eqFloat32S a a = some true := by
  unfold laws_eqFloat32S
  rw [if_neg (by simp)]
  have st := loopF_upto (step := fun (s : (Bool × Int)) => laws_eqFloat32S.s0 a a s.1 s.2) (fun k => (false, (k : Int))) a.length (fun k hk => by
    dsimp only
    unfold laws_eqFloat32S.s0
    rw [if_pos (by simp; omega), idx_nat, List.getElem?_eq_getElem hk]
    simp only [Option.bind_some, same_self _ (Cl.wid _), Bool.not_true, Bool.false_eq_true, if_false]
    rw [wrap_small (by omega) (by omega)]
    rfl)
  have e0 : ((0 : Nat) : Int) = 0 := rfl
  rw [e0] at st
  rw [st]
  have hs : loopF (fun (s : (Bool × Int)) => laws_eqFloat32S.s0 a a s.1 s.2) (false, (a.length : Int)) = some (.inl (false, (a.length : Int), decide ((a.length : Int) < (a.length : Int)))) := by
    apply loopF_stop
    show laws_eqFloat32S.s0 a a false (a.length : Int) = _
    unfold laws_eqFloat32S.s0
    rw [if_neg (by simp)]
  rw [hs]
  rfl
theorem szFloat32S_cases (a : List (Option Nat)) (n : Int) (h0 : 0 ≤ n) (h1 : n ≤ 1048576) (ha : a.length ≤ 9223372036854775807) : (laws_szFloat32S a n = some (-1)) ∨ (laws_szFloat32S a n = some (n - a.length) ∧ (a.length : Int) ≤ n) := by
  unfold laws_szFloat32S
  rw [wrap_small (by omega) (by omega)]
  by_cases h : n - (a.length : Int) < 0
  · rw [if_pos (by simpa using h)]; exact .inl rfl
  · rw [if_neg (by simpa using h)]; exact .inr ⟨rfl, by omega⟩

theorem szSheet_cases (a0 a1 : Int) (a2 : Bool) (a3 a4 : List (Option Nat)) (n : Int) (h0 : 0 ≤ n) (h1 : n ≤ 1048576) (h3 : a3.length ≤ 9223372036854775807) (h4 : a4.length ≤ 9223372036854775807) :
    (laws_szSheet a0 a1 a2 a3 a4 n = some (-1)) ∨ (laws_szSheet a0 a1 a2 a3 a4 n = some (n - a3.length - a4.length) ∧ (a3.length : Int) + a4.length ≤ n) := by
  unfold laws_szSheet
  rcases szFloat32S_cases a3 n h0 h1 h3 with h | ⟨h, hl⟩
  · rw [h]; exact .inl rfl
  · rw [h, Option.bind_some, if_neg (by simp; omega)]
    rcases szFloat32S_cases a4 (n - a3.length) (by omega) (by omega) h4 with h | ⟨h, hl'⟩
    · rw [h]; exact .inl rfl
    · rw [h, Option.bind_some, if_neg (by simp; omega)]
      exact .inr ⟨rfl, by omega⟩

theorem toSheet_eq (a0 a1 : Int) (a2 : Bool) (a3 a4 : List (Option Nat)) (h3 : a3.length ≤ 1000000000) (h4 : a4.length ≤ 1000000000) : laws_toSheet a0 a1 a2 a3 a4 = some (a0, a1, a2, a3, a4) := by
  unfold laws_toSheet
  rw [toFloat32S_eq a3 h3, toFloat32S_eq a4 h4]; rfl
theorem eqSheet_self (a0 a1 : Int) (a2 : Bool) (a3 a4 : List (Option Nat)) (h3 : a3.length ≤ 1000000000) (h4 : a4.length ≤ 1000000000) : laws_eqSheet a0 a1 a2 a3 a4 a0 a1 a2 a3 a4 = some true := by
  unfold laws_eqSheet
  rw [eqFloat32S_self a3 h3, eqFloat32S_self a4 h4]
  simp
end Go.H
