/- Sums of a record with phases: the plain law. -/
import Derived.Test.YtohfgnjmgipehaaGBinOf
import Derived.Test.YtohfgnjmgipehaaPPhasor
set_option linter.unusedVariables false
namespace Go.H
open Go Ieee

theorem recordB (a : List (Option Nat)) : impl_isRecord_float32 a = some (decide ((a.length : Int) ≥ 1) && decide ((a.length : Int) ≤ 64)) ∧ spec_l06Is a = some (decide ((a.length : Int) ≥ 1) && decide ((a.length : Int) ≤ 64)) := by
  unfold impl_isRecord_float32 spec_l06Is spec_l06Count impl_within spec_l00In
  simp only [ite_andB, some_bind', and_self]

theorem Cl.neg {x : Option Nat} (h : Cl x) : Cl (fneg .f64 x) := by
  cases x with
  | none => intro b hb; cases hb
  | some c =>
    intro b hb
    have hc := h c rfl
    have hn : Op.negFloat .f64 c = b := Option.some.inj hb
    subst hn
    have h1 := fneg_cls .f64 c
    rw [(cls_some (k := .f64)).2 ⟨rfl, hc⟩] at h1
    exact ((cls_some (k := .f64)).1 h1).2

theorem Cl.mul (x y : Option Nat) : Cl (fop .mul .f64 x y) := by
  intro r hr
  obtain ⟨a, b, rfl, rfl, h⟩ := fop_some hr
  have h : ((double.read a).product (double.read b)).map double.write = some r := h
  obtain ⟨d, hd, rfl⟩ := Option.map_eq_some_iff.1 h
  exact not_nan_write double (product_nan hd).1

theorem sameC_self (x : Option Nat × Option Nat) (h1 : Cl x.1) (h2 : Cl x.2) : laws_sameComplex x x = some true := by
  unfold laws_sameComplex
  rw [same_self _ h1, same_self _ h2]
  rfl

theorem term_eq (x : Option Nat) (k : Int) (t : Option Nat) : ∃ r, impl_term x k t = some r ∧ spec_l06Term x k t = some r := by
  unfold impl_term spec_l06Term impl_ScaleComplex spec_l01Scale
  obtain ⟨r, h1, h2⟩ := phasor_eq (fneg .f64 (fop .mul .f64 (fofi .f64 k) (wid t))) (Cl.neg (Cl.mul _ _))
  rw [h1, h2]
  exact ⟨_, rfl, rfl⟩

theorem bin_eq (a : List (Option Nat)) (t : Option Nat) (ha : a.length ≤ 1000000000) : ∃ r, spec_BinOf a t = some r ∧ impl_BinOf a t = some r := by
  unfold spec_BinOf impl_BinOf spec_l01Finite impl_IsFinite
  rw [(recordB a).1, (recordB a).2]
  simp only [some_bind', ite_orB]
  generalize (!(decide ((a.length : Int) ≥ 1) && decide ((a.length : Int) ≤ 64)) || !fcmp .eql .f32 (fop .sub .f32 t t) (some 0)) = c
  cases c with
  | true => exact ⟨_, rfl, rfl⟩
  | false =>
    simp only [Bool.false_eq_true, if_false]
    let f := fun (k : Nat) (s : Option Nat × Option Nat) => cop .add .f32 s ((spec_l06Term (a[k]?.getD none) k t).getD (none, none))
    have A := loop_fold (step := fun (s : ((Option Nat × Option Nat) × Int)) => spec_BinOf.s0 a t s.1 s.2) (fun s k => (s, (k : Int))) f (fun _ _ => True) a.length (fun s => (s, (a.length : Int), false)) (some 0, some 0) trivial (fun k s hk _ => by
      refine ⟨?_, trivial⟩
      obtain ⟨r, h1, h2⟩ := term_eq a[k] k t
      show spec_BinOf.s0 a t s (k : Int) = _
      unfold spec_BinOf.s0
      rw [if_pos (by simp; omega), idx_nat, List.getElem?_eq_getElem hk, some_bind', h2, some_bind', one_more (by omega)]
      simp only [f, List.getElem?_eq_getElem hk, Option.getD_some, h2]) (fun s _ => by
      show spec_BinOf.s0 a t s (a.length : Int) = _
      unfold spec_BinOf.s0
      rw [if_neg (by simp)]
      simp)
    have B := loop_fold (step := fun (s : ((Option Nat × Option Nat) × Int)) => impl_BinOf.s0 a t s.1 s.2) (fun s k => (s, (k : Int))) f (fun _ _ => True) a.length (fun s => (s, (a.length : Int), false)) (some 0, some 0) trivial (fun k s hk _ => by
      refine ⟨?_, trivial⟩
      obtain ⟨r, h1, h2⟩ := term_eq a[k] k t
      show impl_BinOf.s0 a t s (k : Int) = _
      unfold impl_BinOf.s0 impl_add
      rw [if_pos (by simp; omega), idx_nat, List.getElem?_eq_getElem hk, some_bind', h1, some_bind', some_bind', one_more (by omega)]
      simp only [f, List.getElem?_eq_getElem hk, Option.getD_some, h2]
      rfl) (fun s _ => by
      show impl_BinOf.s0 a t s (a.length : Int) = _
      unfold impl_BinOf.s0
      rw [if_neg (by simp)]
      simp)
    refine ⟨(foldN f a.length (some 0, some 0), true), ?_, ?_⟩
    · have := A.1; simp only [Int.ofNat_zero] at this; rw [this]; rfl
    · have := B.1; simp only [Int.ofNat_zero] at this; rw [this]; rfl

theorem laws_FnExactBinOf_true (a : List (Option Nat)) (t : Option Nat) (ha : a.length ≤ 9223372036854775807) : laws_FnExactBinOf a t = some true := by
  unfold laws_FnExactBinOf
  by_cases hl : (decide ((a.length : Int) > 1048576)) = true
  · rw [if_pos hl]
  · rw [if_neg hl]
    simp only [decide_eq_true_eq] at hl
    obtain ⟨⟨r, b⟩, e1, e2⟩ := bin_eq a t (by omega)
    simp only [toFloat32S_eq a (by omega), e1, e2, some_bind', sameC_self (cwid r) (Cl.wid _) (Cl.wid _), eqFloat32S_self a (by omega), bne_self_eq_false, Bool.not_true, Bool.false_eq_true, if_false]
end Go.H
