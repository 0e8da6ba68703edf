/- Modes on plain sheets: what the program's functions come to. -/
import Derived.Test.YtmgoblppedmdhaaGShares
import Derived.Test.YtmgoblppedmdhaaPCells
import Derived.Test.YtmgoblppedmdhaaPFieldI
import Derived.Test.YtmgoblppedmdhaaPSheet
import Derived.Test.YtmgoblppedmdhaaPSinT
import Derived.Test.YtmgoblppedmdhaaFV6
set_option linter.unusedVariables false
set_option linter.unusedSectionVars false
namespace Go.H
open Go Ieee

theorem plain_valid {w h : Nat} (w1 : 3 ≤ w) (w2 : w ≤ 16) (k1 : 3 ≤ h) (k2 : h ≤ 16) : impl_ValidSheet w h false (List.replicate (w * h) (some 1048576000)) (List.replicate (w * h) (some 0)) = some true := by
  have hn := area_le w2 k2
  have q1 : okTo 1056964608 (some 1048576000) = true := by decide
  have q2 : okTo 1065353216 (some 0) = true := by decide
  unfold impl_ValidSheet
  rw [between_eq _ _ (by rw [List.length_replicate]; omega), between_eq _ _ (by rw [List.length_replicate]; omega), List.all_eq_true.2 (fun v hv => by rw [(List.mem_replicate.1 hv).2]; exact q1), List.all_eq_true.2 (fun v hv => by rw [(List.mem_replicate.1 hv).2]; exact q2)]
  simp only [(in_eq _ _ _).2, area_eq w2 k2, some_bind', List.length_replicate]
  have c1 : decide ((w : Int) ≥ 3) = true := by simp; omega
  have c2 : decide ((w : Int) ≤ 16) = true := by simp; omega
  have c3 : decide ((h : Int) ≥ 3) = true := by simp; omega
  have c4 : decide ((h : Int) ≤ 16) = true := by simp; omega
  have c5 : decide (((w * h : Nat) : Int) > 256) = false := by simp; omega
  simp only [c1, c2, c3, c4, c5, Bool.and_self, Bool.not_true, Bool.false_eq_true, if_false, some_bind', beq_self_eq_true, if_true]

theorem plain_ok {w h : Nat} (w1 : 3 ≤ w) (w2 : w ≤ 16) (k1 : 3 ≤ h) (k2 : h ≤ 16) : impl_PlainSheet w h false (some 1048576000) = some ((w : Int), (h : Int), false, List.replicate (w * h) (some 1048576000), List.replicate (w * h) (some 0), true) := by
  have hn := area_le w2 k2
  have A := loop_ex (step := fun (s : (Int × (List (Option Nat)))) => impl_PlainSheet.s0 w h (some 1048576000) s.1 s.2) (fun s k => ((k : Int), s)) (fun k s => s = List.replicate k (some 1048576000)) (w * h) (fun s => (((w * h : Nat) : Int), false, s)) [] rfl (fun k s hk hI => by
    refine ⟨s ++ [some 1048576000], ?_, by rw [hI, List.replicate_succ']⟩
    show impl_PlainSheet.s0 w h (some 1048576000) (k : Int) s = _
    unfold impl_PlainSheet.s0
    rw [area_eq w2 k2, if_pos (decide_eq_true (Int.ofNat_lt.2 hk)), if_pos (by rw [hI]; simp; omega), one_more (by omega)]) (fun s hI => by
    show impl_PlainSheet.s0 w h (some 1048576000) ((w * h : Nat) : Int) s = _
    unfold impl_PlainSheet.s0
    rw [area_eq w2 k2, if_neg (by simp)]
    simp)
  obtain ⟨s, A1, rfl⟩ := A
  unfold impl_PlainSheet impl_validSheet
  have c1 : decide ((w : Int) ≥ 3) = true := by simp; omega
  have c2 : decide ((w : Int) ≤ 16) = true := by simp; omega
  have c3 : decide ((h : Int) ≥ 3) = true := by simp; omega
  have c4 : decide ((h : Int) ≤ 16) = true := by simp; omega
  have c5 : 0 ≤ ((w * h : Nat) : Int) ∧ ((w * h : Nat) : Int) ≤ 1000000000 := ⟨by omega, by omega⟩
  simp only [(in_eq _ _ _).2, c1, c2, c3, c4, Bool.and_self, Bool.not_true, Bool.false_eq_true, if_false, some_bind', area_eq w2 k2, if_pos c5]
  simp only [Int.ofNat_zero] at A1
  rw [A1]
  simp only [some_bind', Int.toNat_natCast, plain_valid w1 w2 k1 k2, Bool.not_true, Bool.false_eq_true, if_false]

/-- a fold that sets some places -/
theorem fold_set {f : Nat → List (Option Nat) → List (Option Nat)} (c : Nat → Bool) (g : Nat → Option Nat) (hf : ∀ i s, f i s = if c i = true then s.set i (g i) else s) (s : List (Option Nat)) :
    ∀ n, n ≤ s.length → (foldN f n s).length = s.length ∧ ∀ i, i < s.length → (foldN f n s)[i]? = some (if i < n ∧ c i = true then g i else s[i]?.getD none)
  | 0, _ => ⟨rfl, fun i hi => by rw [if_neg (by omega), List.getElem?_eq_getElem hi]; simp [foldN, hi]⟩
  | n + 1, hn => by
    obtain ⟨h1, h2⟩ := fold_set c g hf s n (by omega)
    have e : foldN f (n + 1) s = f n (foldN f n s) := rfl
    rw [e, hf]
    have h3 := h2 n (by omega)
    rw [if_neg (by omega)] at h3
    refine ⟨by split <;> simp [h1], fun i hi => ?_⟩
    rw [get_set' (c n) (show n < (foldN f n s).length by omega)]
    by_cases hin : i = n
    · subst hin
      rw [h2 i hi, if_neg (show ¬ (i < i ∧ c i = true) by omega)]
      by_cases hc : c i = true
      · rw [if_pos ⟨hc, rfl⟩, if_pos ⟨by omega, hc⟩]
      · rw [if_neg (fun h => hc h.1), if_neg (fun h => hc h.2)]
    · rw [if_neg (fun h => hin h.2), h2 i hi]
      by_cases hc : i < n ∧ c i = true
      · rw [if_pos hc, if_pos ⟨by omega, hc.2⟩]
      · rw [if_neg hc, if_neg (fun h => hc ⟨by omega, h.2⟩)]
where
  get_set' {l : List (Option Nat)} {k j : Nat} {z : Option Nat} (c : Bool) (h : k < l.length) : (if c = true then l.set k z else l)[j]? = if c = true ∧ j = k then some z else l[j]? := by
    cases c with
    | true =>
      by_cases hj : j = k
      · subst hj; simp [h]
      · rw [if_pos rfl, List.getElem?_set_ne (Ne.symm hj), if_neg (fun hh => hj hh.2)]
    | false => simp

/-- a cell in the border -/
def rimB (w h i : Nat) : Bool := decide (i % w = 0 ∨ i % w = w - 1 ∨ i / w = 0 ∨ i / w = h - 1)
noncomputable def sV (a b : Int) : Option Nat := (impl_SineTurns (fop .quo .f32 (fofi .f32 a) (fofi .f32 b))).getD none
theorem sV_eq (a b : Int) : impl_SineTurns (fop .quo .f32 (fofi .f32 a) (fofi .f32 b)) = some (sV a b) := by
  obtain ⟨r, hr⟩ := sineTurns_some (fop .quo .f32 (fofi .f32 a) (fofi .f32 b))
  unfold sV
  rw [hr]; rfl
noncomputable def cellV (w h m n : Nat) (z : Option Nat) (i : Nat) : Option Nat :=
  fop .mul .f32 (fop .mul .f32 z (sV ((m * (i % w) : Nat) : Int) ((2 * (w - 1) : Nat) : Int))) (sV ((n * (i / w) : Nat) : Int) ((2 * (h - 1) : Nat) : Int))

section
variable {w h : Nat} (l t : List (Option Nat)) (w1 : 3 ≤ w) (w2 : w ≤ 16) (k1 : 3 ≤ h) (k2 : h ≤ 16)
include w1 w2 k1 k2

theorem rim_eq {x y : Nat} (hx : x < w) (hy : y < h) : impl_Sheet_isBorder w h false l t x y = some (rimB w h (x + w * y)) := by
  rw [border_eq, wrap_small (n := (w : Int) - 1) (by omega) (by omega), wrap_small (n := (h : Int) - 1) (by omega) (by omega)]
  unfold rimB
  rw [cell_mod hx, cell_div hx]
  congr 1
  rw [Bool.eq_iff_iff]
  simp only [Bool.not_false, Bool.true_and, Bool.or_eq_true, beq_iff_eq, decide_eq_true_eq]
  omega

theorem mode_cells (m n : Nat) (m2 : m ≤ 8) (n2 : n ≤ 8) (z : Option Nat) : ∃ E, impl_modeField w h false l t m n z = some (E, List.replicate (w * h) (some 0), List.replicate (w * h) (some 0)) ∧ E.length = w * h ∧
    ∀ i, i < w * h → E[i]? = some (if rimB w h i = true then some 0 else cellV w h m n z i) := by
  have hn := area_le w2 k2
  let f := fun (i : Nat) (s : List (Option Nat)) => if (!rimB w h i) = true then s.set i (cellV w h m n z i) else s
  have hff : ∀ i s, s.length = w * h → (f i s).length = w * h := by
    intro i s hs
    simp only [f]
    split <;> simp [hs]
  have B := each_fold (C := Int × Int × Bool × Option Nat × Int × Int × (List (Option Nat)) × (List (Option Nat)) × (List (Option Nat))) false l t w2 k2
    (step1 := fun yy (s : (Int × Int × Int × Bool × (Option Nat) × Int × Int × (List (Option Nat)) × (List (Option Nat)) × (List (Option Nat)))) => impl_Sheet_each__impl_modeField_1.s1 w h false l t l t yy s.1 s.2.1 s.2.2.1 s.2.2.2.1 s.2.2.2.2.1 s.2.2.2.2.2.1 s.2.2.2.2.2.2.1 s.2.2.2.2.2.2.2.1 s.2.2.2.2.2.2.2.2.1 s.2.2.2.2.2.2.2.2.2)
    (step0 := fun (s : (Int × Int × Int × Bool × (Option Nat) × Int × Int × (List (Option Nat)) × (List (Option Nat)) × (List (Option Nat)))) => impl_Sheet_each__impl_modeField_1.s0 w h false l t l t s.1 s.2.1 s.2.2.1 s.2.2.2.1 s.2.2.2.2.1 s.2.2.2.2.2.1 s.2.2.2.2.2.2.1 s.2.2.2.2.2.2.2.1 s.2.2.2.2.2.2.2.2.1 s.2.2.2.2.2.2.2.2.2)
    (fun xx yy i c => impl_modeField_1_2 xx yy i c.1 c.2.1 c.2.2.1 l t c.2.2.2.1 c.2.2.2.2.1 c.2.2.2.2.2.1 c.2.2.2.2.2.2.1 c.2.2.2.2.2.2.2.1 c.2.2.2.2.2.2.2.2) (fun _ _ _ => rfl) (fun _ _ => rfl)
    (fun s => ((w : Int), (h : Int), false, z, (m : Int), (n : Int), s, List.replicate (w * h) (some 0), List.replicate (w * h) (some 0))) f (fun _ s => s.length = w * h) (fun xx yy hx hy s hI => by
      refine ⟨?_, hff _ s hI⟩
      have hlt := row_lt hx hy
      have hks : xx + w * yy < s.length := by omega
      show impl_modeField_1_2 xx yy ((xx + w * yy : Nat) : Int) w h false l t z m n s (List.replicate (w * h) (some 0)) (List.replicate (w * h) (some 0)) = _
      unfold impl_modeField_1_2 impl_quotient
      have hm1 : m * xx ≤ 8 * 16 := Nat.mul_le_mul m2 (by omega)
      have hm2 : n * yy ≤ 8 * 16 := Nat.mul_le_mul n2 (by omega)
      have q1 : IntKind.wrap .i64 ((m : Int) * (xx : Int)) = ((m * xx : Nat) : Int) := by
        rw [← Int.natCast_mul]; exact wrap_small (by omega) (by omega)
      have q2 : IntKind.wrap .i64 ((n : Int) * (yy : Int)) = ((n * yy : Nat) : Int) := by
        rw [← Int.natCast_mul]; exact wrap_small (by omega) (by omega)
      have q3 : ∀ a : Nat, 3 ≤ a → a ≤ 16 → IntKind.wrap .i64 (2 * (IntKind.wrap .i64 ((a : Int) - 1))) = ((2 * (a - 1) : Nat) : Int) := by
        intro a h1 h2
        rw [wrap_small (n := (a : Int) - 1) (by omega) (by omega), wrap_small (by omega) (by omega)]
        omega
      rw [rim_eq l t w1 w2 k1 k2 hx hy, q1, q2, q3 w w1 w2, q3 h k1 k2]
      simp only [some_bind', sV_eq, idx_nat, List.getElem?_eq_getElem hks, setF_nat hks]
      simp only [f, cellV, cell_mod hx, cell_div hx]
      cases rimB w h (xx + w * yy) <;> rfl) (List.replicate (w * h) (some 0)) (by simp)
  obtain ⟨F1, F2⟩ := fold_set (f := f) (fun i => !rimB w h i) (fun i => cellV w h m n z i) (fun _ _ => rfl) (List.replicate (w * h) (some 0)) (w * h) (by simp)
  rw [List.length_replicate] at F1 F2
  refine ⟨foldN f (w * h) (List.replicate (w * h) (some 0)), ?_, F1, fun i hi => ?_⟩
  · unfold impl_modeField impl_zeroField impl_Sheet_each__impl_modeField_1
    have c5 : 0 ≤ ((w * h : Nat) : Int) ∧ ((w * h : Nat) : Int) ≤ 1000000000 := ⟨by omega, by omega⟩
    simp only [area_eq w2 k2, if_pos c5, Int.toNat_natCast, some_bind']
    rw [B.1]
    rfl
  · rw [F2 i hi, List.getElem?_replicate, if_pos hi]
    simp only [hi, true_and, Option.getD_some]
    cases rimB w h i <;> rfl
end
end Go.H
