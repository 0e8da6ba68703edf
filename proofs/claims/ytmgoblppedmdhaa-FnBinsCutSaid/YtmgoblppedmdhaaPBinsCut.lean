/- Bins however a record is cut; windows: the plain law. -/
import Derived.Test.YtmgoblppedmdhaaGBinsCut
import Derived.Test.YtmgoblppedmdhaaPRec
import Derived.Test.YtmgoblppedmdhaaPSrc2
import Derived.Test.YtmgoblppedmdhaaPPhasorI
import Derived.Test.YtmgoblppedmdhaaPCells
import Derived.Test.YtmgoblppedmdhaaPLoop
set_option linter.unusedVariables false
set_option linter.unusedSectionVars false
namespace Go.H
open Go Ieee

theorem numbers_ok {a : List Int} (hb : ∀ x ∈ a, 0 ≤ x ∧ x ≤ 255) (n : Nat) (hn : n ≤ 100) : ∃ l : List (Option Nat), spec_R8Numbers a (n : Int) = some l ∧ l.length = n := by
  unfold spec_R8Numbers spec_l00From spec_l01DrawFloats
  obtain ⟨o, p0, q0, e0, b1, b2⟩ := one_ok hb 0 0 4 (by omega) (by omega)
  have A := loop_ex (S := Int × Int × List (Option Nat)) (step := fun (s : (Int × (List (Option Nat)) × Int × Int)) => spec_l01DrawFloats.s0 a (o, p0, q0) s.1 s.2.1 s.2.2.1 s.2.2.2)
    (fun s k => (((n - k : Nat) : Int), s.2.2, s.1, s.2.1)) (fun k s => k ≤ n ∧ 0 ≤ s.1 ∧ s.1 ≤ 100 + 10 * (k : Int) ∧ s.2.2.length = k) n (fun s => (0, false, s.1, s.2.1, s.2.2)) (p0, q0, []) ⟨by omega, by simp only; omega, by simp only; omega, rfl⟩ (fun k s hk hI => by
      obtain ⟨i0, i1, i2, i3⟩ := hI
      have hk1 : IntKind.wrap .i64 (((n - k : Nat) : Int) - 1) = ((n - (k + 1) : Nat) : Int) := by rw [wrap_small (by omega) (by omega)]; omega
      obtain ⟨v, p1, q1, e1, a1, a2⟩ := float_ok hb s.1 s.2.1 i1 (by omega)
      obtain ⟨u, p2, q2, e2, c1, c2⟩ := plain_ok hb s.1 s.2.1 i1 (by omega)
      have hl : ∀ x : Option Nat, s.2.2.length + [x].length ≤ 1000000000 := fun x => by simp; omega
      cases o with
      | true =>
        refine ⟨(p1, q1, s.2.2 ++ [v]), ?_, by omega, by simp only; omega, by simp only; omega, by simp [i3]⟩
        show spec_l01DrawFloats.s0 a (true, p0, q0) (((n - k : Nat) : Int)) s.2.2 s.1 s.2.1 = _
        unfold spec_l01DrawFloats.s0
        rw [if_pos (decide_eq_true (show ((n - k : Nat) : Int) > 0 by omega)), hk1]
        simp only [if_true, e1, some_bind', hl]
      | false =>
        refine ⟨(p2, q2, s.2.2 ++ [u]), ?_, by omega, by simp only; omega, by simp only; omega, by simp [i3]⟩
        show spec_l01DrawFloats.s0 a (false, p0, q0) (((n - k : Nat) : Int)) s.2.2 s.1 s.2.1 = _
        unfold spec_l01DrawFloats.s0
        rw [if_pos (decide_eq_true (show ((n - k : Nat) : Int) > 0 by omega)), hk1]
        simp only [Bool.false_eq_true, if_false, e2, some_bind', hl, if_true]) (fun s hI => by
      show spec_l01DrawFloats.s0 a (o, p0, q0) (((n - n : Nat) : Int)) s.2.2 s.1 s.2.1 = _
      unfold spec_l01DrawFloats.s0
      have e0 : ((n - n : Nat) : Int) = 0 := by omega
      rw [e0, if_neg (by simp)]
      simp)
  obtain ⟨s, A1, _, _, _, i3⟩ := A
  simp only [Nat.sub_zero] at A1
  simp only [some_bind', e0]
  rw [A1]
  exact ⟨s.2.2, rfl, i3⟩

/-! ### bins -/

noncomputable def termT (t : Option Nat) (x : Option Nat) (k : Int) : Option Nat × Option Nat := (impl_term x k t).getD (none, none)
theorem term_some (t x : Option Nat) (k : Int) : impl_term x k t = some (termT t x k) := by
  unfold termT
  obtain ⟨p, hp⟩ := phasor_some (fneg .f64 (fop .mul .f64 (fofi .f64 k) (wid t)))
  unfold impl_term
  rw [hp]
  rfl
def addC (s x : Option Nat × Option Nat) : Option Nat × Option Nat := (fop .add .f32 s.1 x.1, fop .add .f32 s.2 x.2)
noncomputable def binF (t : Option Nat) (l : List (Option Nat)) (k0 : Nat) (i : Nat) (s : Option Nat × Option Nat) : Option Nat × Option Nat := addC s (termT t (l[i]?.getD none) ((k0 + i : Nat) : Int))

section
variable {t : Option Nat} (ht : fin .f32 t = true)
include ht

theorem finite_ok : impl_IsFinite t = some true := by
  unfold impl_IsFinite
  rw [fin_eql, ht]
theorem validBin_ok (k : Nat) (hk : k ≤ 1000000) (s : Option Nat × Option Nat) : impl_ValidBin t (k : Int) s = some true := by
  unfold impl_ValidBin impl_isTick
  rw [finite_ok ht, (in_eq _ _ _).2]
  have : (decide ((k : Int) ≥ 0) && decide ((k : Int) ≤ 1000000)) = true := by simp; omega
  rw [this]; rfl
theorem stepBin_ok (k : Nat) (hk : k < 1000000) (s : Option Nat × Option Nat) (x : Option Nat) : impl_StepBin t (k : Int) s x = some (t, ((k + 1 : Nat) : Int), addC s (termT t x (k : Int)), true) := by
  unfold impl_StepBin impl_add
  rw [validBin_ok ht k (by omega), term_some]
  have : ((k : Int) == 1000000) = false := by simp; omega
  simp only [some_bind', Bool.not_true, Bool.false_eq_true, if_false, this, one_more (show k ≤ 1000000000 by omega)]
  rfl

theorem runBin_ok (l : List (Option Nat)) (k0 : Nat) (hk : k0 ≤ 1000) (hl : l.length ≤ 64) (s : Option Nat × Option Nat) : impl_RunBin t (k0 : Int) s l = some (t, ((k0 + l.length : Nat) : Int), foldN (binF t l k0) l.length s, true) := by
  have A := loop_fold (step := fun (s : (Bool × Int × (Option Nat) × Int × (Option Nat × Option Nat))) => impl_RunBin.s0 l s.1 s.2.1 s.2.2.1 s.2.2.2.1 s.2.2.2.2) (fun s k => (false, (k : Int), t, ((k0 + k : Nat) : Int), s)) (binF t l k0) (fun _ _ => True) l.length (fun s => .inl (false, (l.length : Int), false, t, ((k0 + l.length : Nat) : Int), s)) s trivial (fun k s hk _ => by
    refine ⟨?_, trivial⟩
    show impl_RunBin.s0 l false (k : Int) t ((k0 + k : Nat) : Int) s = _
    unfold impl_RunBin.s0
    rw [if_pos (by simp; omega), idx_nat, List.getElem?_eq_getElem hk, some_bind', stepBin_ok ht _ (by omega)]
    simp only [some_bind', Bool.not_true, Bool.false_eq_true, if_false, one_more (show k ≤ 1000000000 by omega)]
    unfold binF
    rw [List.getElem?_eq_getElem hk]
    rfl) (fun s _ => by
    show impl_RunBin.s0 l false (l.length : Int) t ((k0 + l.length : Nat) : Int) s = _
    unfold impl_RunBin.s0
    rw [if_neg (by simp)]
    simp)
  unfold impl_RunBin
  have hd : decide ((l.length : Int) > 64) = false := by simp; omega
  rw [validBin_ok ht k0 (by omega)]
  simp only [some_bind', Bool.not_true, Bool.false_eq_true, if_false, hd]
  have A1 := A.1
  simp only [Nat.add_zero] at A1
  have A1' : loopF (fun (s : (Bool × Int × (Option Nat) × Int × (Option Nat × Option Nat))) => impl_RunBin.s0 l s.1 s.2.1 s.2.2.1 s.2.2.2.1 s.2.2.2.2) (false, 0, t, (k0 : Int), s) = _ := A1
  rw [A1']
  rfl

theorem binOf_ok (l : List (Option Nat)) (h1 : 1 ≤ l.length) (hl : l.length ≤ 64) : impl_BinOf l t = some (foldN (binF t l 0) l.length (some 0, some 0), true) := by
  have A := loop_fold (step := fun (s : ((Option Nat × Option Nat) × Int)) => impl_BinOf.s0 l t s.1 s.2) (fun s k => (s, (k : Int))) (binF t l 0) (fun _ _ => True) l.length (fun s => (s, (l.length : Int), false)) (some 0, some 0) trivial (fun k s hk _ => by
    refine ⟨?_, trivial⟩
    show impl_BinOf.s0 l t s (k : Int) = _
    unfold impl_BinOf.s0 impl_add
    rw [if_pos (by simp; omega), idx_nat, List.getElem?_eq_getElem hk, some_bind', term_some]
    simp only [some_bind', one_more (show k ≤ 1000000000 by omega)]
    unfold binF
    rw [List.getElem?_eq_getElem hk, Nat.zero_add]
    rfl) (fun s _ => by
    show impl_BinOf.s0 l t s (l.length : Int) = _
    unfold impl_BinOf.s0
    rw [if_neg (by simp)]
    simp)
  unfold impl_BinOf impl_isRecord_float32
  have c1 : (decide ((l.length : Int) ≥ 1) && decide ((l.length : Int) ≤ 64)) = true := by simp; omega
  rw [(in_eq _ _ _).2, c1, finite_ok ht]
  have A1' : loopF (fun (s : ((Option Nat × Option Nat) × Int)) => impl_BinOf.s0 l t s.1 s.2) ((some 0, some 0), 0) = _ := A.1
  simp only [some_bind', Bool.not_true, Bool.false_eq_true, if_false, A1']

theorem now_ok (l : List (Option Nat)) (n : Nat) (p : Int) (hp : IntKind.wrap .i64 (1 + p) = (n : Int)) (hl : l.length = n) (hn : n ≤ 64) :
    loopF (fun (s : (Bool × Int × (Option Nat) × Int × (Option Nat × Option Nat))) => laws_FnBinsCut.s0 p l s.1 s.2.1 s.2.2.1 s.2.2.2.1 s.2.2.2.2) (false, 0, t, 0, (some 0, some 0)) = some (.inl (false, (n : Int), false, t, (n : Int), foldN (binF t l 0) n (some 0, some 0))) := by
  have A := loop_fold (step := fun (s : (Bool × Int × (Option Nat) × Int × (Option Nat × Option Nat))) => laws_FnBinsCut.s0 p l s.1 s.2.1 s.2.2.1 s.2.2.2.1 s.2.2.2.2) (fun s k => (false, (k : Int), t, (k : Int), s)) (binF t l 0) (fun _ _ => True) n (fun s => .inl (false, (n : Int), false, t, (n : Int), s)) (some 0, some 0) trivial (fun k s hk _ => by
    refine ⟨?_, trivial⟩
    have hk' : k < l.length := by omega
    show laws_FnBinsCut.s0 p l false (k : Int) t (k : Int) s = _
    unfold laws_FnBinsCut.s0
    rw [hp, if_pos (by simp; omega), idx_nat, List.getElem?_eq_getElem hk', some_bind', stepBin_ok ht _ (by omega)]
    simp only [some_bind', Bool.not_true, Bool.false_eq_true, if_false, one_more (show k ≤ 1000000000 by omega)]
    unfold binF
    rw [List.getElem?_eq_getElem hk', Nat.zero_add]
    rfl) (fun s _ => by
    show laws_FnBinsCut.s0 p l false (n : Int) t (n : Int) s = _
    unfold laws_FnBinsCut.s0
    rw [hp, if_neg (by simp)]
    simp)
  exact A.1
end

theorem bin_cut (t : Option Nat) (l : List (Option Nat)) (i : Nat) (hi : i ≤ l.length) (s : Option Nat × Option Nat) :
    foldN (binF t (l.drop i) i) (l.drop i).length (foldN (binF t (l.take i) 0) (l.take i).length s) = foldN (binF t l 0) l.length s := by
  have e1 : (l.take i).length = i := by simp; omega
  have e2 : (l.drop i).length = l.length - i := by simp
  rw [e1, e2]
  have e3 : l.length = i + (l.length - i) := by omega
  have e4 : foldN (binF t l 0) l.length s = foldN (fun k => binF t l 0 (i + k)) (l.length - i) (foldN (binF t l 0) i s) := by
    conv => lhs; rw [e3]
    exact foldN_add _ _ _ _
  rw [e4]
  have e5 : foldN (binF t (l.take i) 0) i s = foldN (binF t l 0) i s := foldN_congr _ _ fun k s hk => by
    unfold binF
    rw [List.getElem?_take_of_lt hk]
  rw [e5]
  refine foldN_congr _ _ fun k s hk => ?_
  unfold binF
  rw [List.getElem?_drop, Nat.zero_add]

/-! ### the same number -/

theorem sameNumber_self (v : Option Nat) : impl_SameNumber v v = some true := by
  unfold impl_SameNumber math_Signbit
  cases v with
  | none => rfl
  | some b =>
    cases hn : (single.read b).isNaN with
    | true =>
      have : fcmp .neq .f32 (some b) (some b) = true := by
        show (!((single.read b).order (single.read b) == some .eq)) = true
        cases hd : single.read b with
        | nan s t => rfl
        | number s m p => rw [hd] at hn; cases hn
        | infinity s => rw [hd] at hn; cases hn
      rw [this]; rfl
    | false =>
      have h1 : fcmp .eql .f32 (some b) (some b) = true := eql_self (k := .f32) hn
      have h2 : fcmp .neq .f32 (some b) (some b) = false := by
        show (!fcmp .eql .f32 (some b) (some b)) = false
        rw [h1]; rfl
      rw [h1, h2]
      have hw : ∃ c, wid (some b) = some c := by
        rcases wid_cases b with ⟨_, _, _, _, _, _, _, h⟩ | ⟨_, _, h⟩ | ⟨_, _, h, _⟩
        · exact ⟨_, h⟩
        · exact ⟨_, h⟩
        · rw [h] at hn; cases hn
      obtain ⟨c, hc⟩ := hw
      rw [hc]
      simp [fsign]
theorem sameComplex_self (v : Option Nat × Option Nat) : impl_SameComplex v v = some true := by
  unfold impl_SameComplex
  rw [sameNumber_self, sameNumber_self]; rfl

/-! ### windows -/

/-- a number of a window, to be reckoned -/
def winC (a n k : Nat) : Option (Option Nat) :=
  if a = 0 then some (some 1065353216)
  else if a = 1 then some (fop .quo .f32 (fop .mul .f32 (some 1073741824) (fofi .f32 (imin ((k : Int) + 1) ((n : Int) - k)))) (fofi .f32 ((n : Int) + 1)))
  else (fcv .f64 .f32 (sinWide (wid (fop .add .f32 (some 1048576000) (fop .quo .f32 (fofi .f32 ((k : Int) + 1)) (fofi .f32 ((n : Int) + 1))))))).bind fun x => some (fop .sub .f32 (some 1056964608) (fop .quo .f32 x (some 1073741824)))

theorem windowAt_eq (a n k : Nat) (hn : n ≤ 100) (hk : k < n) : impl_windowAt (a : Int) (n : Int) (k : Int) = winC a n k := by
  unfold impl_windowAt winC
  have h0 : (((a : Nat) : Int) == 0) = decide (a = 0) := by rw [Bool.eq_iff_iff]; simp
  have h1 : (((a : Nat) : Int) == 1) = decide (a = 1) := by rw [Bool.eq_iff_iff]; simp; omega
  rw [h0, h1, wrap_small (n := (k : Int) + 1) (by omega) (by omega), wrap_small (n := (n : Int) - k) (by omega) (by omega), wrap_small (n := (n : Int) + 1) (by omega) (by omega), sineTurns_eq]
  simp only [decide_eq_true_eq]

def winOK (a n k : Nat) : Bool := match winC a n k, winC a n (n - 1 - k) with
  | some v, some u => fcmp .geq .f32 v (some 0) && (!fcmp .gtr .f64 (wid v) (some 4607182869159980145) && !fcmp .gtr .f64 (fmax .f64 (fop .sub .f64 (wid v) (wid u)) (fop .sub .f64 (wid u) (wid v))) (some 4547007122018943789))
  | _, _ => false

set_option maxRecDepth 100000 in
theorem win_all : ∀ a : Nat, a < 3 → ∀ n : Nat, n < 12 → ∀ k : Nat, k < n + 1 → winOK a (n + 1) k = true := by decide +kernel

theorem window_ok (a n : Nat) (ha : a < 3) (hn1 : 1 ≤ n) (hn : n ≤ 12) : ∃ L : List (Option Nat), impl_WindowOf (a : Int) (n : Int) = some (L, true) ∧ L.length = n ∧ ∀ k, k < n → winC a n k = some (L[k]?.getD none) := by
  have hw : ∀ k, k < n → ∃ v, winC a n k = some v := by
    intro k hk
    have := win_all a ha (n - 1) (by omega) k (by omega)
    rw [Nat.sub_add_cancel hn1] at this
    unfold winOK at this
    cases h : winC a n k with
    | none => rw [h] at this; cases this
    | some v => exact ⟨v, rfl⟩
  have A := loop_ex (S := List (Option Nat)) (step := fun (s : ((List (Option Nat)) × Int)) => impl_WindowOf.s0 a n s.1 s.2) (fun s k => (s, (k : Int))) (fun k s => s.length = k ∧ ∀ i, i < k → winC a n i = some (s[i]?.getD none)) n (fun s => ((n : Int), false, s)) [] ⟨rfl, fun i hi => by omega⟩ (fun k s hk hI => by
    obtain ⟨v, hv⟩ := hw k hk
    refine ⟨s ++ [v], ?_, by simp [hI.1], fun i hi => ?_⟩
    · show impl_WindowOf.s0 a n s (k : Int) = _
      unfold impl_WindowOf.s0
      rw [if_pos (by simp; omega), windowAt_eq a n k (by omega) hk, hv, some_bind', if_pos (by simp; omega), one_more (by omega)]
    · by_cases hik : i = k
      · subst hik
        rw [hv, List.getElem?_append_right (by omega), hI.1]
        simp
      · rw [List.getElem?_append_left (by omega)]
        exact hI.2 i (by omega)) (fun s hI => by
    show impl_WindowOf.s0 a n s (n : Int) = _
    unfold impl_WindowOf.s0
    rw [if_neg (by simp)]
    simp)
  obtain ⟨L, A1, A2, A3⟩ := A
  refine ⟨L, ?_, A2, A3⟩
  unfold impl_WindowOf
  have c1 : (decide ((a : Int) ≥ 0) && decide ((a : Int) ≤ 2)) = true := by simp; omega
  have c2 : (decide ((n : Int) ≥ 1) && decide ((n : Int) ≤ 64)) = true := by simp; omega
  have A1' : loopF (fun (s : ((List (Option Nat)) × Int)) => impl_WindowOf.s0 a n s.1 s.2) (([] : List (Option Nat)), 0) = _ := A1
  simp only [(in_eq _ _ _).2, some_bind', c1, c2, Bool.not_true, Bool.false_eq_true, if_false, A1']

theorem times_ok (l w : List (Option Nat)) (h1 : 1 ≤ l.length) (hl : l.length ≤ 64) (hw : w.length = l.length) : ∃ L : List (Option Nat), impl_TimesWindow l w = some (L, true) ∧ L.length = l.length ∧ L[0]? = some (fop .mul .f32 (l[0]?.getD none) (w[0]?.getD none)) := by
  have A := loop_ex (S := List (Option Nat)) (step := fun (s : ((List (Option Nat)) × Int)) => impl_both__impl_TimesWindow_1.s0 l w s.1 s.2) (fun s k => (s, (k : Int))) (fun k s => s.length = k ∧ (0 < k → s[0]? = some (fop .mul .f32 (l[0]?.getD none) (w[0]?.getD none)))) l.length (fun s => ((l.length : Int), false, s)) [] ⟨rfl, fun h => by omega⟩ (fun k s hk hI => by
    refine ⟨s ++ [fop .mul .f32 (l[k]?.getD none) (w[k]?.getD none)], ?_, by simp [hI.1], fun _ => ?_⟩
    · show impl_both__impl_TimesWindow_1.s0 l w s (k : Int) = _
      unfold impl_both__impl_TimesWindow_1.s0 impl_TimesWindow_1
      rw [if_pos (by simp; omega), idx_nat, idx_nat, List.getElem?_eq_getElem hk, List.getElem?_eq_getElem (show k < w.length by omega)]
      simp only [some_bind', Option.getD_some]
      rw [if_pos (by simp; omega), one_more (by omega)]
    · by_cases hk0 : k = 0
      · subst hk0
        have : s = [] := List.length_eq_zero_iff.1 hI.1
        subst this
        rfl
      · rw [List.getElem?_append_left (by omega)]
        exact hI.2 (by omega)) (fun s hI => by
    show impl_both__impl_TimesWindow_1.s0 l w s (l.length : Int) = _
    unfold impl_both__impl_TimesWindow_1.s0
    rw [if_neg (by simp)]
    simp)
  obtain ⟨L, A1, A2, A3⟩ := A
  refine ⟨L, ?_, A2, A3 (by omega)⟩
  unfold impl_TimesWindow impl_isRecord_float32 impl_both__impl_TimesWindow_1
  have c1 : (decide ((l.length : Int) ≥ 1) && decide ((l.length : Int) ≤ 64)) = true := by simp; omega
  have A1' : loopF (fun (s : ((List (Option Nat)) × Int)) => impl_both__impl_TimesWindow_1.s0 l w s.1 s.2) (([] : List (Option Nat)), 0) = _ := A1
  have c2 : ((w.length : Int) != (l.length : Int)) = false := by rw [hw]; simp
  simp only [(in_eq _ _ _).2, some_bind', c1, c2, Bool.not_true, Bool.false_eq_true, if_false, A1']

theorem turns_fin : ∀ c : Nat, c < 33 → fin .f32 (fop .quo .f32 (fofi .f32 ((c : Int) - 16)) (some 1107296256)) = true := by decide +kernel

theorem laws_FnBinsCut_true (a0 a1 : List Int) (h0 : ∀ x ∈ a0, 0 ≤ x ∧ x ≤ 255) (h1 : ∀ x ∈ a1, 0 ≤ x ∧ x ≤ 255) : laws_FnBinsCut a0 a1 = some true := by
  unfold laws_FnBinsCut laws_r8Long
  simp only [some_bind', ite_orB]
  cases (decide ((a0.length : Int) > 48) || decide ((a1.length : Int) > 48)) with
  | true => rfl
  | false =>
    obtain ⟨p, e1, p0, p1⟩ := r8At_ok h1 40 12 (by omega)
    obtain ⟨p, rfl⟩ := Int.eq_ofNat_of_zero_le p0
    have hw : IntKind.wrap .i64 (1 + (p : Int)) = ((1 + p : Nat) : Int) := by rw [wrap_small (by omega) (by omega)]; rfl
    have hw2 : IntKind.wrap .i64 (((1 + p : Nat) : Int) + 1) = ((1 + p : Nat) : Int) + 1 := wrap_small (by omega) (by omega)
    obtain ⟨l, e2, ll⟩ := numbers_ok h0 (1 + p) (by omega)
    obtain ⟨c, e3, c0, c1⟩ := r8At_ok h1 41 33 (by omega)
    obtain ⟨c, rfl⟩ := Int.eq_ofNat_of_zero_le c0
    have hwc : IntKind.wrap .i64 ((c : Int) - 16) = (c : Int) - 16 := wrap_small (by omega) (by omega)
    obtain ⟨i, e4, i0, i1⟩ := r8At_ok h1 42 (((1 + p : Nat) : Int) + 1) (by omega)
    obtain ⟨i, rfl⟩ := Int.eq_ofNat_of_zero_le i0
    have hi : i ≤ 1 + p := by omega
    obtain ⟨a, e5, a0', a1'⟩ := r8At_ok h1 43 3 (by omega)
    obtain ⟨a, rfl⟩ := Int.eq_ofNat_of_zero_le a0'
    have ht := turns_fin c (by omega)
    generalize htt : fop .quo .f32 (fofi .f32 ((c : Int) - 16)) (some 1107296256) = t at *
    have s1 : sub l 0 (i : Int) = some (l.take i) := by
      unfold sub
      rw [if_pos (by omega)]
      simp
    have s2 : sub l (i : Int) (l.length : Int) = some (l.drop i) := by
      unfold sub
      rw [if_pos (by omega)]
      congr 1
      rw [Int.toNat_natCast, Int.toNat_natCast, List.take_of_length_le (by simp)]
    have z0 : ((0 : Nat) : Int) = 0 := rfl
    have r1 := runBin_ok ht l 0 (by omega) (by omega) (some 0, some 0)
    have r2 := runBin_ok ht (l.take i) 0 (by omega) (by simp; omega) (some 0, some 0)
    have r3 := runBin_ok ht (l.drop i) i (by omega) (by simp; omega) (foldN (binF t (l.take i) 0) (l.take i).length (some 0, some 0))
    have et : 0 + (l.take i).length = i := by simp; omega
    have ed : i + (l.drop i).length = 1 + p := by simp; omega
    rw [z0, Nat.zero_add, ll] at r1
    rw [z0, et] at r2
    rw [bin_cut t l i (by omega), ed, ll] at r3
    have r4 := binOf_ok ht l (by omega) (by omega)
    rw [ll] at r4
    have r5 := now_ok ht l (1 + p) (p : Int) hw ll (by omega)
    have vb := validBin_ok ht (1 + p) (by omega) (foldN (binF t l 0) (1 + p) (some 0, some 0))
    obtain ⟨W, w1, w2, w3⟩ := window_ok a (1 + p) (by omega) (by omega) (by omega)
    obtain ⟨L, t1, t2, t3⟩ := times_ok l W (by omega) (by omega) (by omega)
    have C := loop_all' (step := fun (s : (Bool × Int)) => laws_FnBinsCut.s1 (p : Int) (W, true) s.1 s.2) (n := 1 + p) (fun _ => false) false (false, ((1 + p : Nat) : Int), false) (fun k hk => by
      show laws_FnBinsCut.s1 (p : Int) (W, true) false (k : Int) = _
      unfold laws_FnBinsCut.s1 laws_r8Gap
      have hwk : IntKind.wrap .i64 (IntKind.wrap .i64 (((1 + p : Nat) : Int) - 1) - (k : Int)) = ((1 + p - 1 - k : Nat) : Int) := by
        rw [wrap_small (n := ((1 + p : Nat) : Int) - 1) (by omega) (by omega), wrap_small (by omega) (by omega)]; omega
      have hk2 : 1 + p - 1 - k < W.length := by omega
      have hk1 : k < W.length := by omega
      rw [hw, if_pos (by simp; omega), hwk, idx_nat, idx_nat, List.getElem?_eq_getElem hk1, List.getElem?_eq_getElem hk2]
      have hok := win_all a (by omega) p (by omega) k (by omega)
      rw [Nat.add_comm p 1] at hok
      unfold winOK at hok
      rw [w3 k hk, w3 (1 + p - 1 - k) (by omega), List.getElem?_eq_getElem hk1, List.getElem?_eq_getElem hk2] at hok
      simp only [Option.getD_some, Bool.and_eq_true, Bool.not_eq_true'] at hok
      simp only [some_bind', hok.1, hok.2.1, hok.2.2, Bool.not_true, Bool.false_eq_true, if_false, one_more (show k ≤ 1000000000 by omega)]) (by
      show laws_FnBinsCut.s1 (p : Int) (W, true) false ((1 + p : Nat) : Int) = _
      unfold laws_FnBinsCut.s1
      rw [hw, if_neg (by simp)]
      simp)
    have hno : (List.range (1 + p)).any (fun _ => false) = false := by rw [List.any_eq_false]; simp
    rw [hno] at C
    simp only [Bool.false_eq_true, if_false] at C
    have hidx0 : idx L 0 = some (fop .mul .f32 (l[0]?.getD none) (W[0]?.getD none)) := by
      have : idx L ((0 : Nat) : Int) = L[0]? := idx_nat L 0
      exact this.trans t3
    have hidx1 : idx l 0 = some (l[0]?.getD none) := by
      have : idx l ((0 : Nat) : Int) = l[0]? := idx_nat l 0
      rw [List.getElem?_eq_getElem (show 0 < l.length by omega)] at this ⊢
      exact this
    have hidx2 : idx W 0 = some (W[0]?.getD none) := by
      have : idx W ((0 : Nat) : Int) = W[0]? := idx_nat W 0
      rw [List.getElem?_eq_getElem (show 0 < W.length by omega)] at this ⊢
      exact this
    have hwl : ((W.length : Int) != ((1 + p : Nat) : Int)) = false := by rw [w2]; simp
    have hLl : ((L.length : Int) == ((1 + p : Nat) : Int)) = true := by rw [t2, ll]; simp
    simp only [Bool.false_eq_true, if_false, e1, some_bind', hw, hw2, e2, e3, e4, hwc, htt, r1, s1, r2, s2, r3, r4, r5, vb, Bool.not_true, bne_self_eq_false, sameComplex_self, e5, w1, hwl]
    rw [C]
    simp only [some_bind', t1, hLl, hidx0, hidx1, hidx2, sameNumber_self, if_true]
    rfl
end Go.H
