/- Copies, comparisons, marks: what the laws' helpers come to. -/
import Derived.Test.YthccgmjanoeohaaGCopy
set_option linter.unusedVariables false
namespace Go.H
open Go Ieee

theorem loopF_upto {S E : Type} {step : S → Option (S ⊕ E)} (P : Nat → S) (n : Nat) (h : ∀ k, k < n → step (P k) = some (.inl (P (k + 1)))) : loopF step (P 0) = loopF step (P n) := by
  induction n with
  | zero => rfl
  | succ n ih => rw [ih (fun k hk => h k (by omega)), loopF_next (h n (by omega))]

theorem idx_nat {α : Type} (l : List α) (k : Nat) : idx l (k : Int) = l[k]? := by
  unfold idx; rw [if_pos (by omega), Int.toNat_natCast]

theorem wrap_small {n : Int} (h0 : -9223372036854775808 ≤ n) (h1 : n ≤ 9223372036854775807) : IntKind.wrap .i64 n = n := by
  unfold IntKind.wrap
  show (if (true && decide (n % 18446744073709551616 ≥ 9223372036854775808)) = true then n % 18446744073709551616 - 18446744073709551616 else n % 18446744073709551616) = n
  simp only [Bool.true_and, decide_eq_true_eq]
  split <;> omega

theorem setF_nat {α : Type} {l : List α} {k : Nat} (h : k < l.length) (z : α) : setF l (k : Int) z = some (l.set k z) := by
  unfold setF; rw [Int.toNat_natCast, if_pos ⟨by omega, h⟩]

theorem fill_set {α : Type} (l : List α) (z : α) (k : Nat) (h : k < l.length) : (l.take k ++ List.replicate (l.length - k) z).set k l[k] = l.take (k + 1) ++ List.replicate (l.length - (k + 1)) z := by
  have e1 : (l.take k).length = k := by simp; omega
  rw [List.set_append_right _ _ (by omega), e1, Nat.sub_self]
  have e2 : l.length - k = (l.length - (k + 1)) + 1 := by omega
  rw [e2, List.replicate_succ, List.set_cons_zero, List.take_succ_eq_append_getElem h, List.append_assoc]
  rfl

theorem toFloat32S_eq (a : List (Option Nat)) (h : a.length ≤ 1000000000) : laws_toFloat32S a = some a := by
  unfold laws_toFloat32S
  rw [if_pos ⟨by omega, by omega⟩, Int.toNat_natCast]
  have st := loopF_upto (step := fun (s : (Int × (List (Option Nat)))) => laws_toFloat32S.s0 a s.1 s.2) (fun k => ((k : Int), a.take k ++ List.replicate (a.length - k) (some 0))) a.length (fun k hk => by
    dsimp only
    unfold laws_toFloat32S.s0
    have hl : k < (a.take k ++ List.replicate (a.length - k) (some 0)).length := by simp; omega
    rw [if_pos (by simp; omega), idx_nat, idx_nat, List.getElem?_eq_getElem hk, List.getElem?_eq_getElem hl]
    simp only [Option.bind_some]
    rw [setF_nat hl, Option.bind_some, fill_set _ _ _ hk, wrap_small (by omega) (by omega)]
    rfl)
  simp only [List.take_zero, Nat.sub_zero, List.nil_append, Nat.sub_self, List.replicate_zero, List.append_nil, List.take_length] at st
  have e0 : ((0 : Nat) : Int) = 0 := rfl
  rw [e0] at st
  rw [st]
  have hs : loopF (fun (s : (Int × (List (Option Nat)))) => laws_toFloat32S.s0 a s.1 s.2) ((a.length : Int), a) = some ((a.length : Int), decide ((a.length : Int) < (a.length : Int)), a) := by
    apply loopF_stop
    show laws_toFloat32S.s0 a (a.length : Int) a = _
    unfold laws_toFloat32S.s0
    rw [if_neg (by simp)]
  rw [hs]
  rfl

theorem eqFloat32S_self (a : List (Option Nat)) (h : a.length ≤ 1000000000) : laws_eqFloat32S a a = some true := by
  unfold laws_eqFloat32S
  rw [if_neg (by simp)]
  have st := loopF_upto (step := fun (s : (Bool × Int)) => laws_eqFloat32S.s0 a a s.1 s.2) (fun k => (false, (k : Int))) a.length (fun k hk => by
    dsimp only
    unfold laws_eqFloat32S.s0
    rw [if_pos (by simp; omega), idx_nat, List.getElem?_eq_getElem hk]
    simp only [Option.bind_some, same_self _ (Cl.wid _), Bool.not_true, Bool.false_eq_true, if_false]
    rw [wrap_small (by omega) (by omega)]
    rfl)
  have e0 : ((0 : Nat) : Int) = 0 := rfl
  rw [e0] at st
  rw [st]
  have hs : loopF (fun (s : (Bool × Int)) => laws_eqFloat32S.s0 a a s.1 s.2) (false, (a.length : Int)) = some (.inl (false, (a.length : Int), decide ((a.length : Int) < (a.length : Int)))) := by
    apply loopF_stop
    show laws_eqFloat32S.s0 a a false (a.length : Int) = _
    unfold laws_eqFloat32S.s0
    rw [if_neg (by simp)]
  rw [hs]
  rfl
/-- a loop over places that asks the same of each -/
theorem loop_all {step : Bool × Int → Option ((Bool × Int) ⊕ ((Bool × Int × Bool) ⊕ Bool))} {n : Nat} (bad : Nat → Bool) (b : Bool)
    (hs : ∀ k, k < n → step (b, (k : Int)) = some (if bad k then .inr (.inr false) else .inl (b, ((k + 1 : Nat) : Int)))) (he : ∃ e, step (b, (n : Int)) = some (.inr (.inl e))) :
    (∃ e, loopF step (b, 0) = some (.inl e) ∧ ∀ k, k < n → bad k = false) ∨ (loopF step (b, 0) = some (.inr false) ∧ ∃ k, k < n ∧ bad k = true) := by
  have key : ∀ m, m ≤ n → (∀ k, k < n - m → bad k = false) → (∃ e, loopF step (b, ((n - m : Nat) : Int)) = some (.inl e) ∧ ∀ k, k < n → bad k = false) ∨ (loopF step (b, ((n - m : Nat) : Int)) = some (.inr false) ∧ ∃ k, k < n ∧ bad k = true) := by
    intro m
    induction m with
    | zero =>
      intro _ hb
      obtain ⟨e, he⟩ := he
      exact .inl ⟨e, loopF_stop he, fun k hk => hb k (by omega)⟩
    | succ m ih =>
      intro hm hb
      have h1 := hs (n - (m + 1)) (by omega)
      cases hk : bad (n - (m + 1)) with
      | true =>
        rw [hk] at h1
        exact .inr ⟨loopF_stop h1, _, by omega, hk⟩
      | false =>
        rw [hk] at h1
        have e1 : n - (m + 1) + 1 = n - m := by omega
        rw [e1] at h1
        rw [loopF_next h1]
        exact ih (by omega) (fun k hk' => by
          by_cases h : k = n - (m + 1)
          · rw [h]; exact hk
          · exact hb k (by omega))
  have := key n (Nat.le_refl _) (fun k hk => by omega)
  rw [Nat.sub_self] at this
  exact this

theorem ite_andB (b c : Bool) : (if b = true then some c else some false) = some (b && c) := by cases b <;> rfl
theorem ite_orB (b c : Bool) : (if b = true then some true else some c) = some (b || c) := by cases b <;> rfl

/-- a number that is compared with nought is compared with each number -/
theorem gtr_leq {x : Option Nat} {c : Nat} (hc : ∃ s m p, single.read c = .number s m p) (hg : fcmp .geq .f32 x (some 0) = true) : fcmp .gtr .f32 x (some c) = !fcmp .leq .f32 x (some c) := by
  cases x with
  | none => cases hg
  | some b =>
    have hb : (single.read b).isNaN = false := by
      cases hr : single.read b with
      | nan s t =>
        have : ford .f32 (some b) (some 0) = none := by
          show (single.read b).order _ = none
          rw [hr]; rfl
        have hg' : (ford .f32 (some b) (some 0) == some .gt || ford .f32 (some b) (some 0) == some .eq) = true := hg
        rw [this] at hg'; cases hg'
      | number _ _ _ => rfl
      | infinity _ => rfl
    have : ∃ o, ford .f32 (some b) (some c) = some o := by
      obtain ⟨s, m, p, hc⟩ := hc
      show ∃ o, (single.read b).order (single.read c) = some o
      rw [hc]
      revert hb
      cases single.read b with
      | nan _ _ => intro hb; cases hb
      | number _ _ _ => intro _; exact ⟨_, rfl⟩
      | infinity _ => intro _; exact ⟨_, rfl⟩
    obtain ⟨o, ho⟩ := this
    show (ford .f32 (some b) (some c) == some .gt) = (!(ford .f32 (some b) (some c) == some .lt || ford .f32 (some b) (some c) == some .eq))
    rw [ho]
    cases o <;> rfl

theorem szFloat32S_cases (a : List (Option Nat)) (n : Int) (h0 : 0 ≤ n) (h1 : n ≤ 1048576) (ha : a.length ≤ 9223372036854775807) : (laws_szFloat32S a n = some (-1)) ∨ (laws_szFloat32S a n = some (n - a.length) ∧ (a.length : Int) ≤ n) := by
  unfold laws_szFloat32S
  rw [wrap_small (by omega) (by omega)]
  by_cases h : n - (a.length : Int) < 0
  · rw [if_pos (by simpa using h)]; exact .inl rfl
  · rw [if_neg (by simpa using h)]; exact .inr ⟨rfl, by omega⟩

theorem szSheet_cases (a0 a1 : Int) (a2 : Bool) (a3 a4 : List (Option Nat)) (n : Int) (h0 : 0 ≤ n) (h1 : n ≤ 1048576) (h3 : a3.length ≤ 9223372036854775807) (h4 : a4.length ≤ 9223372036854775807) :
    (laws_szSheet a0 a1 a2 a3 a4 n = some (-1)) ∨ (laws_szSheet a0 a1 a2 a3 a4 n = some (n - a3.length - a4.length) ∧ (a3.length : Int) + a4.length ≤ n) := by
  unfold laws_szSheet
  rcases szFloat32S_cases a3 n h0 h1 h3 with h | ⟨h, hl⟩
  · rw [h]; exact .inl rfl
  · rw [h, Option.bind_some, if_neg (by simp; omega)]
    rcases szFloat32S_cases a4 (n - a3.length) (by omega) (by omega) h4 with h | ⟨h, hl'⟩
    · rw [h]; exact .inl rfl
    · rw [h, Option.bind_some, if_neg (by simp; omega)]
      exact .inr ⟨rfl, by omega⟩

theorem toSheet_eq (a0 a1 : Int) (a2 : Bool) (a3 a4 : List (Option Nat)) (h3 : a3.length ≤ 1000000000) (h4 : a4.length ≤ 1000000000) : laws_toSheet a0 a1 a2 a3 a4 = some (a0, a1, a2, a3, a4) := by
  unfold laws_toSheet
  rw [toFloat32S_eq a3 h3, toFloat32S_eq a4 h4]; rfl
theorem eqSheet_self (a0 a1 : Int) (a2 : Bool) (a3 a4 : List (Option Nat)) (h3 : a3.length ≤ 1000000000) (h4 : a4.length ≤ 1000000000) : laws_eqSheet a0 a1 a2 a3 a4 a0 a1 a2 a3 a4 = some true := by
  unfold laws_eqSheet
  rw [eqFloat32S_self a3 h3, eqFloat32S_self a4 h4]
  simp
end Go.H
