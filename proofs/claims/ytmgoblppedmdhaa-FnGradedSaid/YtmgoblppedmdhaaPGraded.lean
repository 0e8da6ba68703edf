/- Graded losses, ramps, walls and channels: the plain law. -/
import Derived.Test.YtmgoblppedmdhaaGGraded
import Derived.Test.YtmgoblppedmdhaaPGrad1
import Derived.Test.YtmgoblppedmdhaaPDraw2
set_option linter.unusedVariables false
namespace Go.H
open Go Ieee

theorem b10At_ok {a : List Int} (hb : ∀ x ∈ a, 0 ≤ x ∧ x ≤ 255) (i n : Int) (h0 : 0 ≤ i) (h1 : i ≤ 1000) : ∃ r, laws_b10At a i n = some r ∧ 0 ≤ r ∧ (r < n ∨ r = 0) := by
  unfold laws_b10At
  by_cases hn : n ≤ 1
  · rw [if_pos (by simpa using hn)]
    exact ⟨0, rfl, by omega, .inr rfl⟩
  · rw [if_neg (by simpa using hn)]
    by_cases hi : i < (a.length : Int)
    · rw [if_pos (by simpa using hi)]
      obtain ⟨k, rfl⟩ := Int.eq_ofNat_of_zero_le h0
      have hk : k < a.length := by omega
      have hx := hb a[k] (List.getElem_mem hk)
      rw [idx_nat, List.getElem?_eq_getElem hk, some_bind', if_neg (by omega), wrap_small (n := a[k]) (by omega) (by omega)]
      exact ⟨_, rfl, Int.tmod_nonneg _ (by omega), .inl (Int.tmod_lt_of_pos _ (by omega))⟩
    · rw [if_neg (by simpa using hi), if_neg (by omega), wrap_small (n := i * 37) (by omega) (by omega), wrap_small (n := i * 37 + 11) (by omega) (by omega)]
      exact ⟨_, rfl, Int.tmod_nonneg _ (by omega), .inl (Int.tmod_lt_of_pos _ (by omega))⟩

theorem l01Bits_some (v : Option Nat) : ∃ n, spec_l01Bits v = some n := by
  unfold spec_l01Bits
  cases v with
  | none => exact ⟨_, rfl⟩
  | some b => split <;> exact ⟨_, rfl⟩
theorem same_num (v : Option Nat) : spec_SameNumber v v = some true := by
  unfold spec_SameNumber spec_l01Same
  obtain ⟨n, hn⟩ := l01Bits_some v
  rw [hn]
  simp

theorem gtr_self (v : Option Nat) : fcmp .gtr .f32 v v = false := by
  cases v with
  | none => rfl
  | some b =>
    show ((single.read b).order (single.read b) == some .gt) = false
    cases single.read b with
    | nan s t => rfl
    | infinity s => cases s <;> rfl
    | number s m i =>
      simp only [Datum.order]
      rw [cmp_gtr]; simp
theorem lss_self (v : Option Nat) : fcmp .lss .f32 v v = false := by
  cases v with
  | none => rfl
  | some b =>
    show ((single.read b).order (single.read b) == some .lt) = false
    cases single.read b with
    | nan s t => rfl
    | infinity s => cases s <;> rfl
    | number s m i =>
      simp only [Datum.order]
      rw [cmp_lss]; simp

/-- a share of depths -/
theorem share_dp : ∀ p : Nat, p < 4 → ∀ d : Nat, d < p + 1 → ∃ q, fop .quo .f32 (fofi .f32 (d : Int)) (fofi .f32 (1 + (p : Int))) = some q ∧ ShareB q := by
  have A : ∀ p : Nat, p < 4 → ∀ d : Nat, d < p + 1 → (match fop .quo .f32 (fofi .f32 (d : Int)) (fofi .f32 (1 + (p : Int))) with
    | some q => match single.read q with
      | .number false n j => decide (j ≤ 0) && decide (n ≤ 2 ^ (0 - j).toNat)
      | _ => false
    | none => false) = true := by decide +kernel
  intro p hp d hd
  have := A p hp d hd
  revert this
  cases fop .quo .f32 (fofi .f32 (d : Int)) (fofi .f32 (1 + (p : Int))) with
  | none => intro h; cases h
  | some q =>
    intro h
    refine ⟨q, rfl, ?_⟩
    simp only at h
    revert h
    cases hr : single.read q with
    | nan s t => intro h; cases h
    | infinity s => intro h; cases h
    | number s n j =>
      cases s with
      | true => intro h; cases h
      | false =>
        intro h
        simp only [Bool.and_eq_true, decide_eq_true_eq] at h
        exact ⟨n, j, hr, h.1, h.2⟩
theorem share_0 : ∀ p : Nat, p < 4 → fop .quo .f32 (fofi .f32 0) (fofi .f32 (1 + (p : Int))) = some 0 := by decide +kernel

/-- nought times nought -/
theorem zero_mul0 {v : Option Nat} (h : fcmp .neq .f32 v (some 0) = false) : fcmp .neq .f32 (fop .mul .f32 v (some 0)) (some 0) = false := by
  cases v with
  | none => cases h
  | some b =>
    have h1 : (!((single.read b).order (single.read 0) == some .eq)) = false := h
    have r0 : single.read 0 = .number false 0 (-149) := by decide
    rw [r0] at h1
    show (!(fcmp .eql .f32 (((single.read b).product (single.read 0)).map single.write) (some 0))) = false
    rw [r0]
    cases hb : single.read b with
    | nan s t => rw [hb] at h1; cases h1
    | infinity s => rw [hb] at h1; cases s <;> cases h1
    | number s m i =>
      have e : (Datum.number s m i).product (Datum.number false 0 (-149)) = some (.number (s ^^ false) (m * 0) (i + -149)) := rfl
      rw [e, Nat.mul_zero]
      show (!((single.read (single.nearest (s ^^ false) 0 (i + -149))).order (single.read 0) == some .eq)) = false
      unfold Format.nearest
      rw [if_pos rfl]
      cases s <;> decide

theorem isField_inv {w h : Nat} {l m e x y : List (Option Nat)} (hv : impl_ValidSheet w h false l m = some true) (w1 : 3 ≤ w) (w2 : w ≤ 16) (k1 : 3 ≤ h) (k2 : h ≤ 16) (he : e.length = w * h) (hx : x.length = w * h) (hy : y.length = w * h)
    (hf : impl_IsField w h false l m e x y = some true) : ∀ i, i < w * h → cellBad w h false (e[i]?.getD none) (x[i]?.getD none) (y[i]?.getD none) ((i % w : Nat) : Int) ((i / w : Nat) : Int) = false := by
  have hn := area_le w2 k2
  unfold impl_IsField at hf
  have q : ∀ n : Nat, n = w * h → ((n : Int) != ((w * h : Nat) : Int)) = false := by intro n hn; simp [hn]
  rw [hv] at hf
  simp only [area_eq w2 k2, q _ he, q _ hx, q _ hy, Bool.not_true, Bool.false_eq_true, if_false, some_bind', ite_some] at hf
  have A := loop_all' (step := fun (s : (Bool × Int)) => impl_IsField.s0 w h false l m e x y s.1 s.2) (n := w * h) (fun i => cellBad w h false (e[i]?.getD none) (x[i]?.getD none) (y[i]?.getD none) ((i % w : Nat) : Int) ((i / w : Nat) : Int)) false (false, ((w * h : Nat) : Int), false) (fun i hi => field_step w h false l m e x y (by omega) (by omega) (by omega) he hx hy i hi false) (by
    show impl_IsField.s0 w h false l m e x y false ((w * h : Nat) : Int) = _
    unfold impl_IsField.s0
    rw [area_eq w2 k2, if_neg (by simp)]
    simp)
  rw [A] at hf
  intro i hi
  cases hc : (List.range (w * h)).any (fun i => cellBad w h false (e[i]?.getD none) (x[i]?.getD none) (y[i]?.getD none) ((i % w : Nat) : Int) ((i / w : Nat) : Int)) with
  | true => rw [hc] at hf; cases hf
  | false =>
    rw [List.any_eq_false] at hc
    have := hc i (List.mem_range.2 hi)
    simpa using this

section
variable {w h : Nat} (b : Bool) (l m : List (Option Nat)) (w1 : 3 ≤ w) (w2 : w ≤ 16) (k1 : 3 ≤ h) (k2 : h ≤ 16) (ll : l.length = w * h) (lm : m.length = w * h) (hv : impl_ValidSheet w h b l m = some true)
include w1 w2 k1 k2 ll lm hv

theorem ramp_cells (e x y : List (Option Nat)) (le : e.length = w * h) (lx : x.length = w * h) (ly : y.length = w * h) (hf : impl_IsField w h b l m e x y = some true) (p : Nat) (hp : p < 4) : ∃ E, impl_RampField w h b l m e x y (1 + (p : Int)) = some (E, x, y, true) ∧ E.length = w * h ∧ impl_IsField w h b l m E x y = some true ∧
    ∀ i, i < w * h → E[i]? = some (if decide (depN w h (i % w) (i / w) < 1 + (p : Int)) = true then fop .mul .f32 (e[i]?.getD none) (fop .quo .f32 (fofi .f32 (depN w h (i % w) (i / w))) (fofi .f32 (1 + (p : Int)))) else e[i]?.getD none) := by
  have hn := area_le w2 k2
  let f := fun (i : Nat) (s : List (Option Nat)) => if decide (depN w h (i % w) (i / w) < 1 + (p : Int)) = true then s.set i (fop .mul .f32 (s[i]?.getD none) (fop .quo .f32 (fofi .f32 (depN w h (i % w) (i / w))) (fofi .f32 (1 + (p : Int))))) else s
  have hff : ∀ i s, s.length = w * h → (f i s).length = w * h := by
    intro i s hs
    simp only [f]
    split <;> simp [hs]
  have B := each_fold (C := Int × Int × Bool × Int × (List (Option Nat)) × (List (Option Nat)) × (List (Option Nat))) b l m w2 k2
    (step1 := fun yy (s : (Int × Int × Int × Bool × Int × (List (Option Nat)) × (List (Option Nat)) × (List (Option Nat)))) => impl_Sheet_each__impl_RampField_1.s1 w h b l m l m yy s.1 s.2.1 s.2.2.1 s.2.2.2.1 s.2.2.2.2.1 s.2.2.2.2.2.1 s.2.2.2.2.2.2.1 s.2.2.2.2.2.2.2)
    (step0 := fun (s : (Int × Int × Int × Bool × Int × (List (Option Nat)) × (List (Option Nat)) × (List (Option Nat)))) => impl_Sheet_each__impl_RampField_1.s0 w h b l m l m s.1 s.2.1 s.2.2.1 s.2.2.2.1 s.2.2.2.2.1 s.2.2.2.2.2.1 s.2.2.2.2.2.2.1 s.2.2.2.2.2.2.2)
    (fun xx yy i c => impl_RampField_1_2 xx yy i c.1 c.2.1 c.2.2.1 l m c.2.2.2.1 c.2.2.2.2.1 c.2.2.2.2.2.1 c.2.2.2.2.2.2) (fun _ _ _ => rfl) (fun _ _ => rfl)
    (fun s => ((w : Int), (h : Int), b, 1 + (p : Int), s, x, y)) f (fun _ s => s.length = w * h) (fun xx yy hx hy s hI => by
      refine ⟨?_, hff _ s hI⟩
      have hlt := row_lt hx hy
      have hks : xx + w * yy < s.length := by omega
      show impl_RampField_1_2 xx yy ((xx + w * yy : Nat) : Int) w h b l m (1 + (p : Int)) s x y = _
      unfold impl_RampField_1_2
      rw [(dep_at b l m w2 k2 hx hy).1, some_bind']
      simp only [f, cell_mod hx, cell_div hx, idx_nat, List.getElem?_eq_getElem hks, some_bind', setF_nat hks, ite_some, Option.getD_some]) e le
  obtain ⟨F1, F2⟩ := fold_set (f := f) (fun i => decide (depN w h (i % w) (i / w) < 1 + (p : Int))) (fun i v => fop .mul .f32 v (fop .quo .f32 (fofi .f32 (depN w h (i % w) (i / w))) (fofi .f32 (1 + (p : Int))))) (fun _ _ => rfl) e (w * h) (by omega)
  have F3 : ∀ i, i < w * h → (foldN f (w * h) e)[i]? = some (if decide (depN w h (i % w) (i / w) < 1 + (p : Int)) = true then fop .mul .f32 (e[i]?.getD none) (fop .quo .f32 (fofi .f32 (depN w h (i % w) (i / w))) (fofi .f32 (1 + (p : Int)))) else e[i]?.getD none) := by
    intro i hi
    rw [F2 i (by omega)]
    simp only [hi, true_and]
  have hE : impl_IsField w h b l m (foldN f (w * h) e) x y = some true := by
    refine isField_of hv w1 w2 k1 k2 (by rw [F1, le]) lx ly ?_
    cases b with
    | true => exact .inl rfl
    | false =>
      right
      intro i hi
      have hb := isField_inv hv w1 w2 k1 k2 le lx ly hf i hi
      rw [F3 i hi, Option.getD_some]
      unfold cellBad at hb ⊢
      simp only [Bool.or_eq_false_iff, Bool.and_eq_false_iff] at hb ⊢
      refine ⟨?_, hb.2⟩
      by_cases hr : (!false && (((i % w : Nat) : Int) == 0 || (((i % w : Nat) : Int) == IntKind.wrap .i64 ((w : Int) - 1) || (((i / w : Nat) : Int) == 0 || ((i / w : Nat) : Int) == IntKind.wrap .i64 ((h : Int) - 1))))) = true
      · right
        have hz : fcmp .neq .f32 (e[i]?.getD none) (some 0) = false := by
          rcases hb.1 with hb | hb
          · exfalso
            simp only [Bool.not_false, Bool.true_and, Bool.or_eq_true] at hr
            rcases hb with hb | hb
            · cases hb
            · rcases hr with hr | hr | hr | hr
              · exact Bool.false_ne_true (hb.1.symm.trans hr)
              · exact Bool.false_ne_true (hb.2.1.symm.trans hr)
              · exact Bool.false_ne_true (hb.2.2.1.symm.trans hr)
              · exact Bool.false_ne_true (hb.2.2.2.symm.trans hr)
          · exact hb
        have hd : depN w h (i % w) (i / w) = 0 := by
          rw [wrap_small (n := (w : Int) - 1) (by omega) (by omega), wrap_small (n := (h : Int) - 1) (by omega) (by omega)] at hr
          simp only [Bool.not_false, Bool.true_and, Bool.or_eq_true, beq_iff_eq] at hr
          refine dep_rim (Nat.mod_lt _ (by omega)) (Nat.div_lt_of_lt_mul hi) ?_
          omega
        rw [hd, if_pos (by simp; omega), share_0 p hp]
        exact zero_mul0 hz
      · left
        simpa using hr
  refine ⟨foldN f (w * h) e, ?_, by rw [F1, le], hE, F3⟩
  unfold impl_RampField impl_isWidth impl_Sheet_each__impl_RampField_1 impl_validField impl_copyField
  have c1 : (decide (1 + (p : Int) ≥ 1) && decide (1 + (p : Int) ≤ 16)) = true := by simp; omega
  rw [hf, copyOf_eq (show e.length ≤ 1000000000 by omega), copyOf_eq (show x.length ≤ 1000000000 by omega), copyOf_eq (show y.length ≤ 1000000000 by omega)]
  simp only [(in_eq _ _ _).2, some_bind', c1, Bool.not_true, Bool.false_eq_true, if_false]
  rw [B.1, some_bind']
  simp only [hE, some_bind', Bool.not_true, Bool.false_eq_true, if_false]
end

theorem still_loop (S : List Int) (i : Int) (hS : S.length ≤ 256) : loopF (fun (s : (Bool × Int)) => laws_FnGraded.s1 (S, true) i s.1 s.2) (false, 0) = some (S.any (fun k => k == i), (S.length : Int), false) := by
  have A := loop_fold (step := fun (s : (Bool × Int)) => laws_FnGraded.s1 (S, true) i s.1 s.2) (fun c k => (c, (k : Int))) (fun k c => c || (S[k]?.getD 0 == i)) (fun k c => c = (S.take k).any (fun k => k == i)) S.length (fun c => (c, (S.length : Int), false)) false (by simp) (fun k c hk hI => by
    refine ⟨?_, ?_⟩
    · show laws_FnGraded.s1 (S, true) i c (k : Int) = _
      unfold laws_FnGraded.s1
      rw [if_pos (by simp; omega), idx_nat, List.getElem?_eq_getElem hk]
      simp only [some_bind', ite_orB, one_more (show k ≤ 1000000000 by omega), Option.getD_some]
    · rw [hI, List.take_succ_eq_append_getElem hk, List.any_append, List.getElem?_eq_getElem hk]
      simp) (fun c _ => by
    show laws_FnGraded.s1 (S, true) i c (S.length : Int) = _
    unfold laws_FnGraded.s1
    rw [if_neg (by simp)]
    simp)
  obtain ⟨A1, A2⟩ := A
  rw [List.take_length] at A2
  rw [← A2]
  exact A1

theorem zero_eql : fcmp .eql .f32 (some 0) (some 0) = true := by decide
theorem zero_neq : fcmp .neq .f32 (some 0) (some 0) = false := by decide

theorem laws_FnGraded_true (a0 a1 : List Int) (h0 : ∀ x ∈ a0, 0 ≤ x ∧ x ≤ 255) (h1 : ∀ x ∈ a1, 0 ≤ x ∧ x ≤ 255) : laws_FnGraded a0 a1 = some true := by
  unfold laws_FnGraded laws_b10Long
  simp only [some_bind', ite_orB]
  cases (decide ((a0.length : Int) > 1048576) || decide ((a1.length : Int) > 1048576)) with
  | true => rfl
  | false =>
    obtain ⟨w, h, b, l, m, e1, w1, w2, k1, k2, ll, lm, hl, hm⟩ := sheet_draw h0
    have hn := area_le (show w ≤ 16 by omega) (show h ≤ 16 by omega)
    have hv := draw_valid (b := b) w1 (by omega) k1 (by omega) ll lm hl hm
    obtain ⟨e, x, y, e2, le, lx, ly, hf⟩ := field_draw h1 hv w1 (by omega) k1 (by omega) ll lm
    obtain ⟨p, e3, p0, p1⟩ := b10At_ok h1 0 4 (by omega) (by omega)
    obtain ⟨p, rfl⟩ := Int.eq_ofNat_of_zero_le p0
    obtain ⟨c, e4, c0, c1⟩ := b10At_ok h1 1 9 (by omega) (by omega)
    obtain ⟨c, rfl⟩ := Int.eq_ofNat_of_zero_le c0
    obtain ⟨r, e5, r0, r1⟩ := b10At_ok h1 2 (h : Int) (by omega) (by omega)
    obtain ⟨r, rfl⟩ := Int.eq_ofNat_of_zero_le r0
    obtain ⟨t, e6, t0, t1⟩ := b10At_ok h1 3 ((h : Int) - (r : Int)) (by omega) (by omega)
    obtain ⟨t, rfl⟩ := Int.eq_ofNat_of_zero_le t0
    obtain ⟨v, e7, v0, v1⟩ := b10At_ok h1 4 (w : Int) (by omega) (by omega)
    obtain ⟨v, rfl⟩ := Int.eq_ofNat_of_zero_le v0
    have hp : p < 4 := by omega
    have hc : c < 9 := by omega
    have hr : r < h := by omega
    have ht : r + t < h := by omega
    have hx0 : v < w := by omega
    have hw1 : IntKind.wrap .i64 (1 + (p : Int)) = ((1 + p : Nat) : Int) := by rw [wrap_small (by omega) (by omega)]; rfl
    have hw2 : IntKind.wrap .i64 ((h : Int) - (r : Int)) = (h : Int) - (r : Int) := wrap_small (by omega) (by omega)
    have hw3 : IntKind.wrap .i64 ((r : Int) + (t : Int)) = ((r + t : Nat) : Int) := by rw [wrap_small (by omega) (by omega)]; rfl
    obtain ⟨M, g1, lM, hM⟩ := grade_cells b l m w1 (by omega) k1 (by omega) ll lm hv (1 + p) (by omega) (by omega) (eighth c) (eighth_ok c hc)
    obtain ⟨E, g2, lE, hE, hEi⟩ := ramp_cells b l m w1 (by omega) k1 (by omega) ll lm hv e x y le lx ly hf p hp
    obtain ⟨L, g3, lL, hL⟩ := channel_cells b l m w1 (by omega) k1 (by omega) ll lm hv r (r + t) (by omega) ht
    obtain ⟨Z, g5, lZ, hZ⟩ := slit_cells b l m w1 (by omega) k1 (by omega) ll lm hv v hx0 r hr
    have sp0 : speedV (some 0) := ⟨0, by omega, by decide +kernel⟩
    have at_l : ∀ i, i < w * h → speedV (l[i]?.getD none) := fun i hi => by
      rw [List.getElem?_eq_getElem (show i < l.length by omega)]; exact hl _ (List.getElem_mem _)
    have at_m : ∀ i, i < w * h → lossV (m[i]?.getD none) := fun i hi => by
      rw [List.getElem?_eq_getElem (show i < m.length by omega)]; exact hm _ (List.getElem_mem _)
    have sL : ∀ z ∈ L, speedV z := by
      intro z hz
      obtain ⟨i, hi, rfl⟩ := List.getElem_of_mem hz
      have := hL i (by omega)
      rw [List.getElem?_eq_getElem hi] at this
      rw [Option.some.inj this]
      split
      · exact sp0
      · exact at_l i (by omega)
    have sZ : ∀ z ∈ Z, speedV z := by
      intro z hz
      obtain ⟨i, hi, rfl⟩ := List.getElem_of_mem hz
      have := hZ i (by omega)
      rw [List.getElem?_eq_getElem hi] at this
      rw [Option.some.inj this]
      split
      · exact sp0
      · exact at_l i (by omega)
    have vL := draw_valid (b := b) w1 (show w ≤ 16 by omega) k1 (show h ≤ 16 by omega) lL lm sL hm
    have vZ := draw_valid (b := b) w1 (show w ≤ 16 by omega) k1 (show h ≤ 16 by omega) lZ lm sZ hm
    have gfact : ∀ i, i < w * h → okTo 1065353216 (M[i]?.getD none) = true ∧ fcmp .lss .f32 (M[i]?.getD none) (m[i]?.getD none) = false := by
      intro i hi
      obtain ⟨k, hk, hmk⟩ := at_m i hi
      have hmk : m[i]?.getD none = eighth k := hmk
      have hd := (dep_at b l m (show w ≤ 16 by omega) (show h ≤ 16 by omega) (Nat.mod_lt i (show 0 < w by omega)) (Nat.div_lt_of_lt_mul hi)).2
      obtain ⟨d, hd'⟩ := Int.eq_ofNat_of_zero_le hd.1
      rw [hM i hi, Option.getD_some, hmk]
      split
      · rename_i hlt
        rw [hd'] at hlt ⊢
        have := grade_all p hp d (by simp at hlt; omega) c hc k hk
        simp only [Bool.and_eq_true, Bool.not_eq_true'] at this
        have e : ((1 + p : Nat) : Int) = 1 + (p : Int) := rfl
        rw [e]
        exact this
      · exact ⟨eighth_ok k hk, lss_self _⟩
    have vM : impl_ValidSheet w h b l M = some true := by
      unfold impl_ValidSheet
      rw [between_eq l _ (by omega), between_eq M _ (by omega), all_of (fun v hv => by obtain ⟨c, hc, rfl⟩ := hl v hv; exact speed_ok c hc), all_of (fun z hz => by
        obtain ⟨i, hi, rfl⟩ := List.getElem_of_mem hz
        have := (gfact i (by omega)).1
        rw [List.getElem?_eq_getElem hi] at this
        exact this)]
      simp only [(in_eq _ _ _).2, area_eq (show w ≤ 16 by omega) (show h ≤ 16 by omega), some_bind', ll, lM]
      have c1 : decide ((w : Int) ≥ 3) = true := by simp; omega
      have c2 : decide ((w : Int) ≤ 16) = true := by simp; omega
      have c3 : decide ((h : Int) ≥ 3) = true := by simp; omega
      have c4 : decide ((h : Int) ≤ 16) = true := by simp; omega
      have c5 : decide (((w * h : Nat) : Int) > 256) = false := by simp; omega
      simp only [c1, c2, c3, c4, c5, Bool.and_self, Bool.not_true, Bool.false_eq_true, if_false, some_bind', beq_self_eq_true, if_true]
    obtain ⟨S, g4, lS, hS⟩ := still_cells b L m w1 (by omega) k1 (by omega) lL lm vL
    have g2' : impl_RampField w h b l m e x y ((1 + p : Nat) : Int) = some (E, x, y, true) := g2
    have g1' : impl_GradeLosses w h b l m ((1 + p : Nat) : Int) (fop .quo .f32 (fofi .f32 (c : Int)) (some 1090519040)) = some ((w : Int), (h : Int), b, l, M, true) := g1
    have C := loop_all' (step := fun (s : (Bool × Int)) => laws_FnGraded.s0 ((w : Int), (h : Int), b, l, m) (e, x, y) (p : Int) ((w : Int), (h : Int), b, l, M, true) (E, x, y, true) (r : Int) (t : Int) ((w : Int), (h : Int), b, L, m, true) (S, true) (v : Int) ((w : Int), (h : Int), b, Z, m, true) s.1 s.2) (n := w * h) (fun _ => false) false (false, ((w * h : Nat) : Int), false) (fun k hk => by
      show laws_FnGraded.s0 ((w : Int), (h : Int), b, l, m) (e, x, y) (p : Int) ((w : Int), (h : Int), b, l, M, true) (E, x, y, true) (r : Int) (t : Int) ((w : Int), (h : Int), b, L, m, true) (S, true) (v : Int) ((w : Int), (h : Int), b, Z, m, true) false (k : Int) = _
      have xl : k % w < w := Nat.mod_lt _ (by omega)
      have yl : k / w < h := Nat.div_lt_of_lt_mul hk
      have n1 : ¬ ((w : Int) = 0) := by omega
      have hd := dep_at b l m (show w ≤ 16 by omega) (show h ≤ 16 by omega) xl yl
      have D : impl_DepthOf w h b l m ((k % w : Nat) : Int) ((k / w : Nat) : Int) = some (depN w h (k % w) (k / w), true) := by
        unfold impl_DepthOf impl_isValidCell impl_Sheet_isCell
        have cn : ∀ a n : Nat, a < n → (decide ((a : Int) ≥ 0) && decide ((a : Int) ≤ (n : Int) - 1)) = true := by intro a n h; simp; omega
        have c1 := cn (k % w) w xl
        have c2 := cn (k / w) h yl
        rw [hv, hd.1]
        simp only [(in_eq _ _ _).2, wrap_small (n := (w : Int) - 1) (by omega) (by omega), wrap_small (n := (h : Int) - 1) (by omega) (by omega), some_bind', c1, c2, if_true, Bool.not_true, Bool.false_eq_true, if_false]
      obtain ⟨G, hG⟩ : ∃ G, M[k]? = some G := ⟨_, hM k hk⟩
      obtain ⟨R, hR⟩ : ∃ R, E[k]? = some R := ⟨_, hEi k hk⟩
      obtain ⟨Cc, hCc⟩ : ∃ Cc, L[k]? = some Cc := ⟨_, hL k hk⟩
      obtain ⟨Sl, hSl⟩ : ∃ Sl, Z[k]? = some Sl := ⟨_, hZ k hk⟩
      obtain ⟨m0, hm0⟩ : ∃ m0, m[k]? = some m0 := ⟨_, List.getElem?_eq_getElem (show k < m.length by omega)⟩
      obtain ⟨l0, hl0⟩ : ∃ l0, l[k]? = some l0 := ⟨_, List.getElem?_eq_getElem (show k < l.length by omega)⟩
      obtain ⟨f0, hf0⟩ : ∃ f0, e[k]? = some f0 := ⟨_, List.getElem?_eq_getElem (show k < e.length by omega)⟩
      have A1 := hM k hk
      have A2 := hEi k hk
      have A3 := hL k hk
      have A4 := hZ k hk
      have A5 := hS k hk
      have A6 := (gfact k hk).2
      rw [hG, hm0, Option.getD_some] at A1
      rw [hR, hf0, Option.getD_some] at A2
      rw [hCc, hl0, Option.getD_some] at A3
      rw [hSl, hl0, Option.getD_some] at A4
      rw [hCc, Option.getD_some] at A5
      rw [hG, hm0, Option.getD_some, Option.getD_some] at A6
      replace A1 := Option.some.inj A1
      replace A2 := Option.some.inj A2
      replace A3 := Option.some.inj A3
      replace A4 := Option.some.inj A4
      have B1 : decide (depN w h (k % w) (k / w) ≥ ((1 + p : Nat) : Int)) = true → G = m0 ∧ R = f0 := by
        intro hge
        have hge := of_decide_eq_true hge
        have hge' : ((1 + p : Nat) : Int) = 1 + (p : Int) := rfl
        rw [if_neg (by simp; omega)] at A1 A2
        exact ⟨A1, A2⟩
      have B2 : (fcmp .gtr .f32 R f0 && fcmp .gtr .f32 R (some 0)) = false ∧ (fcmp .lss .f32 R f0 && fcmp .lss .f32 R (some 0)) = false := by
        by_cases hlt : decide (depN w h (k % w) (k / w) < 1 + (p : Int)) = true
        · rw [if_pos hlt] at A2
          have hlt := of_decide_eq_true hlt
          obtain ⟨d, hd'⟩ := Int.eq_ofNat_of_zero_le hd.2.1
          rw [hd'] at A2 hlt
          obtain ⟨q, hq, hsh⟩ := share_dp p hp d (by omega)
          rw [hq] at A2
          rw [A2]
          cases f0 with
          | none => exact ⟨rfl, rfl⟩
          | some f0 => exact share_less hsh
        · rw [if_neg hlt] at A2
          rw [A2, gtr_self, lss_self]
          exact ⟨rfl, rfl⟩
      unfold laws_FnGraded.s0
      rw [if_pos (by simp [ll]; omega), if_neg n1, if_neg n1]
      simp only [tmod_nat, div_eq hk hn, hw1, hw3, D, some_bind', Bool.not_true, Bool.false_eq_true, if_false, idx_nat, hG, hR, hCc, hSl, hm0, hl0, hf0, A6, still_loop S (k : Int) lS, A5, ite_some]
      have P1 : (if decide (depN w h (k % w) (k / w) ≥ ((1 + p : Nat) : Int)) = true then (spec_SameNumber G m0).bind fun (x30 : Bool) => if (!x30) = true then some true else (spec_SameNumber R f0).bind fun (x33 : Bool) => some (!x33) else some false) = some false := by
        cases hge : decide (depN w h (k % w) (k / w) ≥ ((1 + p : Nat) : Int)) with
        | false => rfl
        | true =>
          obtain ⟨q1, q2⟩ := B1 hge
          rw [if_pos rfl, q1, q2, same_num, some_bind', same_num]
          rfl
      rw [P1, some_bind', if_neg (by simp)]
      have P2 : (if fcmp .gtr .f32 R f0 = true then if fcmp .gtr .f32 R (some 0) = true then true else if fcmp .lss .f32 R f0 = true then fcmp .lss .f32 R (some 0) else false else if fcmp .lss .f32 R f0 = true then fcmp .lss .f32 R (some 0) else false) = false := by
        obtain ⟨q1, q2⟩ := B2
        revert q1 q2
        cases fcmp .gtr .f32 R f0 <;> cases fcmp .gtr .f32 R (some 0) <;> cases fcmp .lss .f32 R f0 <;> cases fcmp .lss .f32 R (some 0) <;> simp
      rw [P2, if_neg (by simp)]
      rw [bne_self_eq_false]
      generalize k / w = yy at A3 A4 ⊢
      generalize k % w = xx at A4 ⊢
      have g1 : decide (((yy : Nat) : Int) < (r : Int)) = decide (yy < r) := by rw [decide_eq_decide]; omega
      have g2 : decide (((yy : Nat) : Int) ≥ (r : Int)) = decide (r ≤ yy) := by rw [decide_eq_decide]; omega
      have g3 : decide (((yy : Nat) : Int) > ((r + t : Nat) : Int)) = decide (r + t < yy) := by rw [decide_eq_decide]; omega
      have g4 : decide (((yy : Nat) : Int) ≤ ((r + t : Nat) : Int)) = decide (yy ≤ r + t) := by rw [decide_eq_decide]; omega
      have g5 : (((xx : Nat) : Int) == (v : Int)) = decide (xx = v) := by rw [Bool.eq_iff_iff]; simp; omega
      have g6 : (((yy : Nat) : Int) == (r : Int)) = decide (yy = r) := by rw [Bool.eq_iff_iff]; simp; omega
      have g7 : (((xx : Nat) : Int) != (v : Int)) = !decide (xx = v) := by rw [bne, g5]
      have g8 : (((yy : Nat) : Int) != (r : Int)) = !decide (yy = r) := by rw [bne, g6]
      rw [g2, g4] at A3
      simp only [g1, g2, g3, g4, g5, g6, g7, g8]
      have Q1 : ((yy < r ∨ r + t < yy) ∧ Cc = some 0) ∨ (r ≤ yy ∧ yy ≤ r + t ∧ Cc = l0) := by
        by_cases q1 : r ≤ yy
        · by_cases q2 : yy ≤ r + t
          · rw [decide_eq_true q1, decide_eq_true q2] at A3; exact .inr ⟨q1, q2, A3⟩
          · rw [decide_eq_false q2, Bool.and_false] at A3; exact .inl ⟨.inr (by omega), A3⟩
        · rw [decide_eq_false q1] at A3; exact .inl ⟨.inl (by omega), A3⟩
      have Q2 : (xx = v ∧ yy ≠ r ∧ Sl = some 0) ∨ ((xx ≠ v ∨ yy = r) ∧ Sl = l0) := by
        by_cases q1 : xx = v
        · by_cases q2 : yy = r
          · rw [decide_eq_true q1, decide_eq_true q2] at A4; exact .inr ⟨.inr q2, A4⟩
          · rw [decide_eq_true q1, decide_eq_false q2] at A4; exact .inl ⟨q1, q2, A4⟩
        · rw [decide_eq_false q1] at A4; exact .inr ⟨.inl q1, A4⟩
      have R2 : ∀ o : Option Bool, o = some false → (o.bind fun (x62 : Bool) => some (if x62 = true then .inr (.inr false) else .inl (false, IntKind.wrap .i64 ((k : Int) + 1)))) = (some (.inl (false, ((k + 1 : Nat) : Int))) : Option ((Bool × Int) ⊕ ((Bool × Int × Bool) ⊕ Bool))) := by
        rintro _ rfl
        rw [some_bind', if_neg (by simp), one_more (show k ≤ 1000000000 by omega)]
      have R1 : ∀ o : Option Bool, o = some false → ∀ z : Option ((Bool × Int) ⊕ ((Bool × Int × Bool) ⊕ Bool)), (o.bind fun (x51 : Bool) => if x51 = true then some (.inr (.inr false)) else z) = z := by
        rintro _ rfl z
        rw [some_bind', if_neg (by simp)]
      refine (R1 _ ?_ _).trans (R2 _ ?_)
      · rcases Q1 with ⟨q1, rfl⟩ | ⟨q1, q2, rfl⟩
        · rw [zero_eql]
          rcases q1 with q1 | q1
          · rw [decide_eq_true q1, decide_eq_false (show ¬ r ≤ yy by omega)]; rfl
          · rw [decide_eq_false (show ¬ yy < r by omega), decide_eq_true q1, decide_eq_false (show ¬ yy ≤ r + t by omega)]
            cases decide (r ≤ yy) <;> rfl
        · rw [decide_eq_false (show ¬ yy < r by omega), decide_eq_false (show ¬ r + t < yy by omega), decide_eq_true q1, decide_eq_true q2, same_num]; rfl
      · rcases Q2 with ⟨q1, q2, rfl⟩ | ⟨q1, rfl⟩
        · rw [decide_eq_true q1, decide_eq_false q2, zero_neq]; rfl
        · rcases q1 with q1 | q1
          · rw [decide_eq_false q1, same_num]; rfl
          · rw [decide_eq_true q1, same_num]
            cases decide (xx = v) <;> rfl) (by
      show laws_FnGraded.s0 ((w : Int), (h : Int), b, l, m) (e, x, y) (p : Int) ((w : Int), (h : Int), b, l, M, true) (E, x, y, true) (r : Int) (t : Int) ((w : Int), (h : Int), b, L, m, true) (S, true) (v : Int) ((w : Int), (h : Int), b, Z, m, true) false ((w * h : Nat) : Int) = _
      unfold laws_FnGraded.s0
      rw [if_neg (by simp [ll])]
      simp [ll])
    have hno : (List.range (w * h)).any (fun _ => false) = false := by rw [List.any_eq_false]; simp
    rw [hno] at C
    simp only [Bool.false_eq_true, if_false] at C
    simp only [Bool.false_eq_true, if_false, e1, some_bind', e2, e3, e4, e5, hw1, hw2, hw3, e6, e7, g1', g2', g3, g4, g5, vM, vL, vZ, hE, Bool.not_true]
    rw [C]
    rfl
end Go.H
