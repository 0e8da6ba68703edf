/- Blocks that sleep: the plain law. -/
import Derived.Test.YthccgmjanoeohaaGSleepingBlocks
import Derived.Test.YthccgmjanoeohaaPSleep
set_option linter.unusedVariables false
namespace Go.H
open Go Ieee

theorem markB_eq (a : List Bool) (n : Int) (h0 : 0 ≤ n) (h1 : n + a.length ≤ 1000000000000) : laws_markBoolS a n = some (n + a.length, marks (fun i => Int.tmod i 3 == 0) n a.length) := by
  unfold laws_markBoolS
  rw [mark_loop (fun i => Int.tmod i 3 == 0) (fun _ _ _ => rfl) a n h0 h1]
  rfl
theorem heldB_eq (n : Int) (k : Nat) (h0 : 0 ≤ n) (h1 : n + k ≤ 1000000000000) : laws_heldBoolS (marks (fun i => Int.tmod i 3 == 0) n k) n = some (n + k) := by
  unfold laws_heldBoolS
  rw [held_loop (a := marks (fun i => Int.tmod i 3 == 0) n k) (fun i => Int.tmod i 3 == 0) (fun y x => y != (Int.tmod x 3 == 0)) (fun _ _ _ => rfl) n k rfl (fun x => by simp) h0 h1]
  rfl
theorem eqBoolS_self (a : List Bool) (h : a.length ≤ 1000000000) : laws_eqBoolS a a = some true := by
  unfold laws_eqBoolS
  rw [if_neg (by simp)]
  have st := loop_all' (step := fun (s : (Bool × Int)) => laws_eqBoolS.s0 a a s.1 s.2) (n := a.length) (fun _ => false) false (false, (a.length : Int), false) (fun k hk => by
    show laws_eqBoolS.s0 a a false (k : Int) = _
    unfold laws_eqBoolS.s0
    rw [if_pos (by simp; omega), idx_nat, List.getElem?_eq_getElem hk]
    simp only [some_bind', bne_self_eq_false, Bool.false_eq_true, if_false, one_more (show k ≤ 1000000000 by omega)]) (by
    show laws_eqBoolS.s0 a a false (a.length : Int) = _
    unfold laws_eqBoolS.s0
    rw [if_neg (by simp)]
    simp)
  rw [st]
  simp

theorem laws_FnExactSleepingBlocks_true (a0 a1 : Int) (a2 : Bool) (a3 a4 e x y : List (Option Nat)) (p : Int) (h3 : a3.length ≤ 9223372036854775807) (h4 : a4.length ≤ 9223372036854775807) (he : e.length ≤ 9223372036854775807) (hx : x.length ≤ 9223372036854775807) (hy : y.length ≤ 9223372036854775807) : laws_FnExactSleepingBlocks a0 a1 a2 a3 a4 e x y p = some true := by
  unfold laws_FnExactSleepingBlocks
  rcases szSheet_cases a0 a1 a2 a3 a4 1048576 (by omega) (by omega) h3 h4 with h | ⟨h, hl⟩
  · rw [h]; rfl
  · rw [h, some_bind', if_neg (by simp; omega)]
    rcases szField_cases e x y (1048576 - a3.length - a4.length) (by omega) (by omega) he hx hy with h | ⟨h, hl2⟩
    · rw [h]; rfl
    · rw [h, some_bind', if_neg (by simp; omega)]
      obtain ⟨⟨r1, b⟩, q1, e1, e2⟩ := sleeping_eq a0 a1 a2 a3 a4 e x y p (by omega) (by omega)
      simp only at q1
      simp only [toSheet_eq a0 a1 a2 a3 a4 (by omega) (by omega), toField_eq e x y (by omega) (by omega) (by omega), e1, e2, some_bind', eqBoolS_self r1 (by omega), eqSheet_self a0 a1 a2 a3 a4 (by omega) (by omega), eqField_self e x y (by omega) (by omega) (by omega), bne_self_eq_false, Bool.not_true, Bool.false_eq_true, if_false,
        markSheet_eq a0 a1 a2 a3 a4 1 (by omega) (by omega), markField_eq e x y (1 + (a3.length : Int) + (a4.length : Int)) (by omega) (by omega), markB_eq r1 1 (by omega) (by omega), heldB_eq 1 r1.length (by omega) (by omega), not_neg (show 0 ≤ 1 + (a3.length : Int) + (a4.length : Int) + (e.length : Int) + (x.length : Int) + (y.length : Int) by omega), not_neg (show 0 ≤ 1 + (r1.length : Int) by omega)]
end Go.H
