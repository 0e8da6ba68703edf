/- The spectrum of a record: the plain law. -/
import Derived.Test.YthccgmjanoeohaaGSpectrumOf
set_option linter.unusedVariables false
namespace Go.H
open Go Ieee

theorem recordS (a : List (Option Nat)) : impl_isRecord_float32 a = some (decide ((a.length : Int) ≥ 1) && decide ((a.length : Int) ≤ 64)) ∧ spec_l06Is a = some (decide ((a.length : Int) ≥ 1) && decide ((a.length : Int) ≤ 64)) := by
  unfold impl_isRecord_float32 spec_l06Is spec_l06Count impl_within spec_l00In
  simp only [ite_andB, some_bind', and_self]

theorem Cl.negS {x : Option Nat} (h : Cl x) : Cl (fneg .f64 x) := by
  cases x with
  | none => intro b hb; cases hb
  | some c =>
    intro b hb
    have hc := h c rfl
    have hn : Op.negFloat .f64 c = b := Option.some.inj hb
    subst hn
    have h1 := fneg_cls .f64 c
    rw [(cls_some (k := .f64)).2 ⟨rfl, hc⟩] at h1
    exact ((cls_some (k := .f64)).1 h1).2

theorem Cl.quo (x y : Option Nat) : Cl (fop .quo .f64 x y) := by
  intro r hr
  obtain ⟨a, b, rfl, rfl, h⟩ := fop_some hr
  have h : ((double.read a).quotient (double.fractionBits + 2) (double.read b)).map double.write = some r := h
  obtain ⟨d, hd, rfl⟩ := Option.map_eq_some_iff.1 h
  exact not_nan_write double (quotient_nan hd).1

/-- the turns of a term -/
def turnOf (n k m : Int) : Option Nat := fneg .f64 (fop .quo .f64 (fofi .f64 (Int.tmod (IntKind.wrap .i64 (k * m)) n)) (fofi .f64 n))

theorem turn_eq (n k m : Int) : ∃ r, impl_PhasorOf (turnOf n k m) = some r ∧ spec_l01Phasor (turnOf n k m) = some r := phasor_eq _ (Cl.negS (Cl.quo _ _))

theorem sums_eq (a : List (Option Nat)) (ha : a.length ≤ 64) (h1 : 1 ≤ a.length) (m : Int) : ∃ r, loopF (fun (s : ((Option Nat × Option Nat) × Int)) => spec_SpectrumOf.s1 a m s.1 s.2) ((some 0, some 0), 0) = some (r, (a.length : Int), false) ∧ loopF (fun (s : ((Option Nat × Option Nat) × Int)) => impl_SpectrumOf.s1 a m s.1 s.2) ((some 0, some 0), 0) = some (r, (a.length : Int), false) := by
  let f := fun (k : Nat) (s : Option Nat × Option Nat) => cop .add .f32 s (fop .mul .f32 ((spec_l01Phasor (turnOf a.length k m)).getD (none, none)).1 (a[k]?.getD none), fop .mul .f32 ((spec_l01Phasor (turnOf a.length k m)).getD (none, none)).2 (a[k]?.getD none))
  have A := loop_fold (step := fun (s : ((Option Nat × Option Nat) × Int)) => spec_SpectrumOf.s1 a m s.1 s.2) (fun s k => (s, (k : Int))) f (fun _ _ => True) a.length (fun s => (s, (a.length : Int), false)) (some 0, some 0) trivial (fun k s hk _ => by
    refine ⟨?_, trivial⟩
    obtain ⟨r, g1, g2⟩ := turn_eq a.length k m
    show spec_SpectrumOf.s1 a m s (k : Int) = _
    unfold spec_SpectrumOf.s1 spec_l01Scale
    rw [if_pos (by simp; omega), if_neg (by omega)]
    show ((spec_l01Phasor (turnOf a.length k m)).bind _) = _
    rw [g2, some_bind', idx_nat, List.getElem?_eq_getElem hk, some_bind', some_bind', one_more (by omega)]
    simp only [f, List.getElem?_eq_getElem hk, Option.getD_some, g2]) (fun s _ => by
    show spec_SpectrumOf.s1 a m s (a.length : Int) = _
    unfold spec_SpectrumOf.s1
    rw [if_neg (by simp)]
    simp)
  have B := loop_fold (step := fun (s : ((Option Nat × Option Nat) × Int)) => impl_SpectrumOf.s1 a m s.1 s.2) (fun s k => (s, (k : Int))) f (fun _ _ => True) a.length (fun s => (s, (a.length : Int), false)) (some 0, some 0) trivial (fun k s hk _ => by
    refine ⟨?_, trivial⟩
    obtain ⟨r, g1, g2⟩ := turn_eq a.length k m
    show impl_SpectrumOf.s1 a m s (k : Int) = _
    unfold impl_SpectrumOf.s1 impl_share impl_ScaleComplex impl_add
    rw [if_pos (by simp; omega), idx_nat, List.getElem?_eq_getElem hk, some_bind', if_neg (by omega), some_bind']
    show ((impl_PhasorOf (turnOf a.length k m)).bind _) = _
    rw [g1, some_bind', some_bind', some_bind', one_more (by omega)]
    simp only [f, List.getElem?_eq_getElem hk, Option.getD_some, g2]
    rfl) (fun s _ => by
    show impl_SpectrumOf.s1 a m s (a.length : Int) = _
    unfold impl_SpectrumOf.s1
    rw [if_neg (by simp)]
    simp)
  refine ⟨foldN f a.length (some 0, some 0), ?_, ?_⟩
  · have := A.1; simp only [Int.ofNat_zero] at this; exact this
  · have := B.1; simp only [Int.ofNat_zero] at this; exact this

theorem spectrum_eq (a : List (Option Nat)) (ha : a.length ≤ 1000000000) : ∃ r, r.1.length ≤ 64 ∧ spec_SpectrumOf a = some r ∧ impl_SpectrumOf a = some r := by
  unfold spec_SpectrumOf impl_SpectrumOf
  rw [(recordS a).1, (recordS a).2]
  simp only [some_bind']
  cases hc : (decide ((a.length : Int) ≥ 1) && decide ((a.length : Int) ≤ 64)) with
  | false => exact ⟨([], false), by simp, by simp, by simp⟩
  | true =>
    simp only [Bool.and_eq_true, decide_eq_true_eq] at hc
    have ha1 : 1 ≤ a.length := by omega
    have ha2 : a.length ≤ 64 := by omega
    simp only [Bool.not_true, Bool.false_eq_true, if_false]
    let f := fun (k : Nat) (s : List (Option Nat × Option Nat)) => s ++ [((loopF (fun (s : ((Option Nat × Option Nat) × Int)) => spec_SpectrumOf.s1 a k s.1 s.2) ((some 0, some 0), 0)).getD ((none, none), 0, false)).1]
    have A := loop_fold (step := fun (s : ((List ((Option Nat × Option Nat))) × Int)) => spec_SpectrumOf.s0 a s.1 s.2) (fun s k => (s, (k : Int))) f (fun k s => s.length = k) a.length (fun s => ((a.length : Int), false, s)) [] rfl (fun k s hk hI => by
      refine ⟨?_, by simp [f, hI]⟩
      obtain ⟨r, g1, g2⟩ := sums_eq a ha2 ha1 k
      show spec_SpectrumOf.s0 a s (k : Int) = _
      unfold spec_SpectrumOf.s0
      rw [if_pos (by simp; omega), g1, some_bind']
      simp only
      rw [if_pos (by simp; omega), one_more (by omega)]
      simp only [f, g1, Option.getD_some]) (fun s hI => by
      show spec_SpectrumOf.s0 a s (a.length : Int) = _
      unfold spec_SpectrumOf.s0
      rw [if_neg (by simp)]
      simp)
    have B := loop_fold (step := fun (s : ((List ((Option Nat × Option Nat))) × Int)) => impl_SpectrumOf.s0 a s.1 s.2) (fun s k => (s, (k : Int))) f (fun k s => s.length = k) a.length (fun s => ((a.length : Int), false, s)) [] rfl (fun k s hk hI => by
      refine ⟨?_, by simp [f, hI]⟩
      obtain ⟨r, g1, g2⟩ := sums_eq a ha2 ha1 k
      show impl_SpectrumOf.s0 a s (k : Int) = _
      unfold impl_SpectrumOf.s0
      rw [if_pos (by simp; omega), g2, some_bind']
      simp only
      rw [if_pos (by simp; omega), one_more (by omega)]
      simp only [f, g1, Option.getD_some]) (fun s hI => by
      show impl_SpectrumOf.s0 a s (a.length : Int) = _
      unfold impl_SpectrumOf.s0
      rw [if_neg (by simp)]
      simp)
    refine ⟨(foldN f a.length [], true), ?_, ?_, ?_⟩
    · have := A.2; simp only; omega
    · have := A.1; simp only [Int.ofNat_zero] at this; rw [this]; rfl
    · have := B.1; simp only [Int.ofNat_zero] at this; rw [this]; rfl

theorem sameC_selfS (x : Option Nat × Option Nat) (h1 : Cl x.1) (h2 : Cl x.2) : laws_sameComplex x x = some true := by
  unfold laws_sameComplex
  rw [same_self _ h1, same_self _ h2]
  rfl

theorem eqC_self (a : List (Option Nat × Option Nat)) (h : a.length ≤ 1000000000) : laws_eqComplex64S a a = some true := by
  unfold laws_eqComplex64S
  rw [if_neg (by simp)]
  obtain ⟨st, _⟩ := loop_fold (step := fun (s : (Bool × Int)) => laws_eqComplex64S.s0 a a s.1 s.2) (fun (s : Unit) k => (false, (k : Int))) (fun _ s => s) (fun _ _ => True) a.length (fun _ => .inl (false, (a.length : Int), false)) () trivial (fun k s hk _ => by
    refine ⟨?_, trivial⟩
    show laws_eqComplex64S.s0 a a false (k : Int) = _
    unfold laws_eqComplex64S.s0
    rw [if_pos (by simp; omega), idx_nat, List.getElem?_eq_getElem hk]
    simp only [some_bind', sameC_selfS (cwid a[k]) (Cl.wid _) (Cl.wid _), Bool.not_true, Bool.false_eq_true, if_false]
    rw [one_more (by omega)]) (fun s _ => by
    show laws_eqComplex64S.s0 a a false (a.length : Int) = _
    unfold laws_eqComplex64S.s0
    rw [if_neg (by simp)]
    simp)
  simp only [Int.ofNat_zero] at st
  rw [st]
  rfl

/-- a mark -/
def markC (n : Int) : Option Nat × Option Nat := ((fcv .f64 .f32 (fofi .f64 n)).getD none, (fcv .f64 .f32 (some 4607182418800017408)).getD none)
theorem markC_all : ∀ i : Fin 100, (fcv .f64 .f32 (fofi .f64 ((i.val : Nat) : Int))) = some (markC ((i.val : Nat) : Int)).1 ∧ fcv .f64 .f32 (some 4607182418800017408) = some (markC ((i.val : Nat) : Int)).2 ∧ ccmp .neq .f32 (markC ((i.val : Nat) : Int)) (markC ((i.val : Nat) : Int)) = false := by decide +kernel
theorem markC_eq {n : Nat} (h : n < 100) : (fcv .f64 .f32 (fofi .f64 (n : Int))) = some (markC n).1 ∧ fcv .f64 .f32 (some 4607182418800017408) = some (markC n).2 ∧ ccmp .neq .f32 (markC n) (markC n) = false := markC_all ⟨n, h⟩

theorem markCS_eq (a : List (Option Nat × Option Nat)) (h : a.length ≤ 64) : laws_markComplex64S a 1 = some (1 + (a.length : Int), marks markC 1 a.length) := by
  unfold laws_markComplex64S
  have A := loop_fold (step := fun (s : (Int × Int × (List ((Option Nat × Option Nat))))) => laws_markComplex64S.s0 s.1 s.2.1 s.2.2) (fun (s : List (Option Nat × Option Nat)) k => (1 + (k : Int), (k : Int), s)) (fun k s => s.set k (markC (1 + (k : Int)))) (fun k s => s = marks markC 1 k ++ a.drop k) a.length (fun s => (1 + (a.length : Int), (a.length : Int), false, s)) a (by simp [marks]) (fun k s hk hI => by
    have hsl : s.length = a.length := by rw [hI, List.length_append, marks_len, List.length_drop]; omega
    have hks : k < s.length := by omega
    obtain ⟨c1, c2, _⟩ := markC_eq (n := k + 1) (by omega)
    have e1 : ((k + 1 : Nat) : Int) = 1 + (k : Int) := by omega
    rw [e1] at c1 c2
    constructor
    · show laws_markComplex64S.s0 (1 + (k : Int)) (k : Int) s = _
      unfold laws_markComplex64S.s0
      rw [if_pos (by simp; omega)]
      simp only
      rw [c1, some_bind', c2, some_bind', idx_nat, List.getElem?_eq_getElem hks, some_bind', setF_nat hks, some_bind', wrap_small (n := 1 + (k : Int) + 1) (by omega) (by omega), one_more (by omega)]
      congr 3
    · rw [hI, List.set_append_right _ _ (by rw [marks_len]; omega), marks_len, Nat.sub_self, List.drop_eq_getElem_cons hk, List.set_cons_zero]
      unfold marks
      rw [List.range_succ, List.map_append, List.append_assoc]
      rfl) (fun s hI => by
    have hsl : s.length = a.length := by rw [hI, List.length_append, marks_len, List.length_drop]; omega
    show laws_markComplex64S.s0 (1 + (a.length : Int)) (a.length : Int) s = _
    unfold laws_markComplex64S.s0
    rw [if_neg (by simp [hsl])]
    simp [hsl])
  obtain ⟨A1, A2⟩ := A
  simp only [Int.ofNat_zero, Int.add_zero] at A1
  rw [A1, A2]
  simp

theorem heldCS_eq (k : Nat) (h : k ≤ 64) : laws_heldComplex64S (marks markC 1 k) 1 = some (1 + (k : Int)) := by
  unfold laws_heldComplex64S
  have A := loop_fold (step := fun (s : (Int × Int × Int)) => laws_heldComplex64S.s0 (marks markC 1 k) s.1 s.2.1 s.2.2) (fun (s : Unit) i => (1 + (i : Int), (0 : Int), (i : Int))) (fun _ s => s) (fun _ _ => True) k (fun _ => .inl (1 + (k : Int), (0 : Int), (k : Int), false)) () trivial (fun i s hi _ => by
    refine ⟨?_, trivial⟩
    obtain ⟨c1, c2, c3⟩ := markC_eq (n := i + 1) (by omega)
    have e1 : ((i + 1 : Nat) : Int) = 1 + (i : Int) := by omega
    rw [e1] at c1 c2 c3
    show laws_heldComplex64S.s0 (marks markC 1 k) (1 + (i : Int)) 0 (i : Int) = _
    unfold laws_heldComplex64S.s0
    rw [if_pos (by rw [marks_len]; simp; omega), idx_nat, marks_get markC 1 hi, some_bind']
    simp only
    rw [c1, some_bind', c2, some_bind']
    have c3' : ccmp .neq .f32 (markC (1 + (i : Int))) ((markC (1 + (i : Int))).1, (markC (1 + (i : Int))).2) = false := c3
    rw [c3', if_neg (by simp), wrap_small (n := 1 + (i : Int) + 1) (by omega) (by omega), one_more (by omega)]
    congr 3) (fun s _ => by
    show laws_heldComplex64S.s0 (marks markC 1 k) (1 + (k : Int)) 0 (k : Int) = _
    unfold laws_heldComplex64S.s0
    rw [if_neg (by rw [marks_len]; simp), marks_len]
    simp)
  obtain ⟨A1, _⟩ := A
  simp only [Int.ofNat_zero, Int.add_zero] at A1
  rw [A1]
  rfl

theorem laws_FnExactSpectrumOf_true (a : List (Option Nat)) (ha : a.length ≤ 9223372036854775807) : laws_FnExactSpectrumOf a = some true := by
  unfold laws_FnExactSpectrumOf
  by_cases hl : (decide ((a.length : Int) > 1048576)) = true
  · rw [if_pos hl]
  · rw [if_neg hl]
    simp only [decide_eq_true_eq] at hl
    obtain ⟨⟨l, b⟩, hlen, e1, e2⟩ := spectrum_eq a (by omega)
    simp only at hlen
    simp only [toFloat32S_eq a (by omega), e1, e2, some_bind', eqC_self l (by omega), eqFloat32S_self a (by omega), bne_self_eq_false, Bool.not_true, Bool.false_eq_true, if_false, markF_eq a 1 (by omega) (by omega), markCS_eq l (by omega), heldCS_eq l.length (by omega), not_neg (show 0 ≤ 1 + (a.length : Int) by omega), not_neg (show 0 ≤ 1 + (l.length : Int) by omega)]
end Go.H
