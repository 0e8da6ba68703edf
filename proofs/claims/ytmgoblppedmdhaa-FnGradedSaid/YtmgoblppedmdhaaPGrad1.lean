/- Graded losses, ramps, channels, slits: what each cell becomes. -/
import Derived.Test.YtmgoblppedmdhaaGGradeLosses
import Derived.Test.YtmgoblppedmdhaaGRampField
import Derived.Test.YtmgoblppedmdhaaGChannelSheet
import Derived.Test.YtmgoblppedmdhaaGStillCells
import Derived.Test.YtmgoblppedmdhaaGSlitSheet
import Derived.Test.YtmgoblppedmdhaaPDraw
import Derived.Test.YtmgoblppedmdhaaLib2
set_option linter.unusedVariables false
set_option linter.unusedSectionVars false
namespace Go.H
open Go Ieee

/-- a fold that sets some places, each by what it had -/
theorem fold_set {f : Nat → List (Option Nat) → List (Option Nat)} (c : Nat → Bool) (g : Nat → Option Nat → Option Nat) (hf : ∀ i s, f i s = if c i = true then s.set i (g i (s[i]?.getD none)) else s) (s : List (Option Nat)) :
    ∀ n, n ≤ s.length → (foldN f n s).length = s.length ∧ ∀ i, i < s.length → (foldN f n s)[i]? = some (if i < n ∧ c i = true then g i (s[i]?.getD none) else s[i]?.getD none)
  | 0, _ => ⟨rfl, fun i hi => by rw [if_neg (by omega), List.getElem?_eq_getElem hi]; simp [foldN, hi]⟩
  | n + 1, hn => by
    obtain ⟨h1, h2⟩ := fold_set c g hf s n (by omega)
    have e : foldN f (n + 1) s = f n (foldN f n s) := rfl
    rw [e, hf]
    have h3 := h2 n (by omega)
    rw [if_neg (by omega)] at h3
    refine ⟨by split <;> simp [h1], fun i hi => ?_⟩
    rw [get_set' (c n) (show n < (foldN f n s).length by omega), h3, Option.getD_some]
    by_cases hin : i = n
    · subst hin
      rw [h2 i hi, if_neg (show ¬ (i < i ∧ c i = true) by omega)]
      by_cases hc : c i = true
      · rw [if_pos ⟨hc, rfl⟩, if_pos ⟨by omega, hc⟩]
      · rw [if_neg (fun h => hc h.1), if_neg (fun h => hc h.2)]
    · rw [if_neg (fun h => hin h.2), h2 i hi]
      by_cases hc : i < n ∧ c i = true
      · rw [if_pos hc, if_pos ⟨by omega, hc.2⟩]
      · rw [if_neg hc, if_neg (fun h => hc ⟨by omega, h.2⟩)]
where
  get_set' {l : List (Option Nat)} {k j : Nat} {z : Option Nat} (c : Bool) (h : k < l.length) : (if c = true then l.set k z else l)[j]? = if c = true ∧ j = k then some z else l[j]? := by
    cases c with
    | true =>
      by_cases hj : j = k
      · subst hj; simp [h]
      · rw [if_pos rfl, List.getElem?_set_ne (Ne.symm hj), if_neg (fun hh => hj hh.2)]
    | false => simp

/-- how far a cell is from the border -/
def depN (w h x y : Nat) : Int := imin (imin (imin (x : Int) (y : Int)) ((w : Int) - 1 - x)) ((h : Int) - 1 - y)
theorem dep_at {w h x y : Nat} (b : Bool) (l m : List (Option Nat)) (hw : w ≤ 16) (hh : h ≤ 16) (hx : x < w) (hy : y < h) : impl_Sheet_depth w h b l m x y = some (depN w h x y) ∧ 0 ≤ depN w h x y ∧ depN w h x y ≤ 15 := by
  unfold impl_Sheet_depth depN
  rw [wrap_small (n := (w : Int) - 1) (by omega) (by omega), wrap_small (n := (h : Int) - 1) (by omega) (by omega), wrap_small (n := (w : Int) - 1 - x) (by omega) (by omega), wrap_small (n := (h : Int) - 1 - y) (by omega) (by omega)]
  refine ⟨rfl, ?_, ?_⟩ <;> (unfold imin; split <;> split <;> (try split) <;> omega)
theorem dep_rim {w h x y : Nat} (hx : x < w) (hy : y < h) (hr : x = 0 ∨ x = w - 1 ∨ y = 0 ∨ y = h - 1) : depN w h x y = 0 := by
  unfold depN imin
  split <;> split <;> (try split) <;> omega

/-- a loss that is graded -/
def gradeV (p d : Int) (q x : Option Nat) : Option Nat :=
  if (fcmp .gtr .f32 (fop .add .f32 x (fop .mul .f32 q (fop .mul .f32 (fop .quo .f32 (fofi .f32 (IntKind.wrap .i64 (p - d))) (fofi .f32 p)) (fop .quo .f32 (fofi .f32 (IntKind.wrap .i64 (p - d))) (fofi .f32 p))))) (some 1065353216)) = true then some 1065353216 else fop .add .f32 x (fop .mul .f32 q (fop .mul .f32 (fop .quo .f32 (fofi .f32 (IntKind.wrap .i64 (p - d))) (fofi .f32 p)) (fop .quo .f32 (fofi .f32 (IntKind.wrap .i64 (p - d))) (fofi .f32 p))))
def eighth (c : Nat) : Option Nat := fop .quo .f32 (fofi .f32 (c : Int)) (some 1090519040)
theorem grade_all : ∀ p : Nat, p < 4 → ∀ d : Nat, d < p + 1 → ∀ c : Nat, c < 9 → ∀ k : Nat, k < 9 → (okTo 1065353216 (gradeV (1 + (p : Int)) (d : Int) (eighth c) (eighth k)) && !(fcmp .lss .f32 (gradeV (1 + (p : Int)) (d : Int) (eighth c) (eighth k)) (eighth k))) = true := by decide +kernel
theorem eighth_ok : ∀ c : Nat, c < 9 → okTo 1065353216 (eighth c) = true := loss_ok

section
variable {w h : Nat} (b : Bool) (l m : List (Option Nat)) (w1 : 3 ≤ w) (w2 : w ≤ 16) (k1 : 3 ≤ h) (k2 : h ≤ 16) (ll : l.length = w * h) (lm : m.length = w * h) (hv : impl_ValidSheet w h b l m = some true)
include w1 w2 k1 k2 ll lm hv

theorem copySheet_eq : impl_copySheet w h b l m = some ((w : Int), (h : Int), b, l, m) := by
  have hn := area_le w2 k2
  unfold impl_copySheet
  rw [copyOf_eq (by omega), copyOf_eq (by omega)]; rfl

theorem grade_cells (p : Nat) (p1 : 1 ≤ p) (p2 : p ≤ 16) (q : Option Nat) (hq : okTo 1065353216 q = true) : ∃ M, impl_GradeLosses w h b l m (p : Int) q = some ((w : Int), (h : Int), b, l, M, true) ∧ M.length = w * h ∧
    ∀ i, i < w * h → M[i]? = some (if decide (depN w h (i % w) (i / w) < (p : Int)) = true then gradeV p (depN w h (i % w) (i / w)) q (m[i]?.getD none) else m[i]?.getD none) := by
  have hn := area_le w2 k2
  let f := fun (i : Nat) (s : List (Option Nat)) => if decide (depN w h (i % w) (i / w) < (p : Int)) = true then s.set i (gradeV p (depN w h (i % w) (i / w)) q (s[i]?.getD none)) else s
  have hf : ∀ i s, s.length = w * h → (f i s).length = w * h := by
    intro i s hs
    simp only [f]
    split <;> simp [hs]
  have B := each_fold (C := Int × Int × Bool × Int × Int × Int × Bool × (List (Option Nat)) × (List (Option Nat)) × (Option Nat)) b l m w2 k2
    (step1 := fun y (s : (Int × Int × Int × Bool × Int × Int × Int × Bool × (List (Option Nat)) × (List (Option Nat)) × (Option Nat))) => impl_Sheet_each__impl_GradeLosses_1.s1 w h b l m l m y s.1 s.2.1 s.2.2.1 s.2.2.2.1 s.2.2.2.2.1 s.2.2.2.2.2.1 s.2.2.2.2.2.2.1 s.2.2.2.2.2.2.2.1 s.2.2.2.2.2.2.2.2.1 s.2.2.2.2.2.2.2.2.2.1 s.2.2.2.2.2.2.2.2.2.2)
    (step0 := fun (s : (Int × Int × Int × Bool × Int × Int × Int × Bool × (List (Option Nat)) × (List (Option Nat)) × (Option Nat))) => impl_Sheet_each__impl_GradeLosses_1.s0 w h b l m l m s.1 s.2.1 s.2.2.1 s.2.2.2.1 s.2.2.2.2.1 s.2.2.2.2.2.1 s.2.2.2.2.2.2.1 s.2.2.2.2.2.2.2.1 s.2.2.2.2.2.2.2.2.1 s.2.2.2.2.2.2.2.2.2.1 s.2.2.2.2.2.2.2.2.2.2)
    (fun x y i c => impl_GradeLosses_1_2 x y i c.1 c.2.1 c.2.2.1 l m c.2.2.2.1 c.2.2.2.2.1 c.2.2.2.2.2.1 c.2.2.2.2.2.2.1 c.2.2.2.2.2.2.2.1 c.2.2.2.2.2.2.2.2.1 c.2.2.2.2.2.2.2.2.2) (fun _ _ _ => rfl) (fun _ _ => rfl)
    (fun s => ((w : Int), (h : Int), b, (p : Int), (w : Int), (h : Int), b, l, s, q)) f (fun _ s => s.length = w * h) (fun x y hx hy s hI => by
      refine ⟨?_, hf _ s hI⟩
      have hlt := row_lt hx hy
      have hks : x + w * y < s.length := by omega
      show impl_GradeLosses_1_2 x y ((x + w * y : Nat) : Int) w h b l m p w h b l s q = _
      unfold impl_GradeLosses_1_2
      rw [(dep_at b l m w2 k2 hx hy).1, some_bind']
      simp only [f, cell_mod hx, cell_div hx]
      cases hc : decide (depN w h x y < (p : Int)) with
      | false => rfl
      | true =>
        simp only [if_true]
        rw [idx_nat, List.getElem?_eq_getElem hks, some_bind', ite_some, some_bind', some_bind', setF_nat hks, some_bind', some_bind']
        rfl) m lm
  obtain ⟨F1, F2⟩ := fold_set (f := f) (fun i => decide (depN w h (i % w) (i / w) < (p : Int))) (fun i x => gradeV p (depN w h (i % w) (i / w)) q x) (fun _ _ => rfl) m (w * h) (by omega)
  refine ⟨foldN f (w * h) m, ?_, by rw [F1, lm], fun i hi => ?_⟩
  · unfold impl_GradeLosses impl_isWidth impl_isShare impl_Sheet_each__impl_GradeLosses_1
    unfold okTo at hq
    have hs : (if fcmp .geq .f32 q (some 0) = true then some (fcmp .leq .f32 q (some 1065353216)) else some false) = some true := by
      rw [ite_andB, hq]
    have c1 : (decide ((p : Int) ≥ 1) && decide ((p : Int) ≤ 16)) = true := by simp; omega
    rw [hv]
    simp only [(in_eq _ _ _).2, some_bind', c1, Bool.not_true, Bool.false_eq_true, if_false, hs, copySheet_eq b l m w1 w2 k1 k2 ll lm hv]
    rw [B.1]; rfl
  · rw [F2 i (by omega)]
    simp only [hi, true_and]

theorem channel_cells (p q : Nat) (hp : p ≤ q) (hq : q < h) : ∃ L, impl_ChannelSheet w h b l m (p : Int) (q : Int) = some ((w : Int), (h : Int), b, L, m, true) ∧ L.length = w * h ∧
    ∀ i, i < w * h → L[i]? = some (if (!(decide (((i / w : Nat) : Int) ≥ p) && decide (((i / w : Nat) : Int) ≤ q))) = true then some 0 else l[i]?.getD none) := by
  have hn := area_le w2 k2
  let f := fun (i : Nat) (s : List (Option Nat)) => if (!(decide (((i / w : Nat) : Int) ≥ p) && decide (((i / w : Nat) : Int) ≤ q))) = true then s.set i (some 0) else s
  have hf : ∀ i s, s.length = w * h → (f i s).length = w * h := by
    intro i s hs
    simp only [f]
    split <;> simp [hs]
  have B := each_fold (C := Int × Int × Int × Int × Bool × (List (Option Nat)) × (List (Option Nat))) b l m w2 k2
    (step1 := fun y (s : (Int × Int × Int × Int × Int × Bool × (List (Option Nat)) × (List (Option Nat)))) => impl_Sheet_each__impl_ChannelSheet_1.s1 w h b l m y s.1 s.2.1 s.2.2.1 s.2.2.2.1 s.2.2.2.2.1 s.2.2.2.2.2.1 s.2.2.2.2.2.2.1 s.2.2.2.2.2.2.2)
    (step0 := fun (s : (Int × Int × Int × Int × Int × Bool × (List (Option Nat)) × (List (Option Nat)))) => impl_Sheet_each__impl_ChannelSheet_1.s0 w h b l m s.1 s.2.1 s.2.2.1 s.2.2.2.1 s.2.2.2.2.1 s.2.2.2.2.2.1 s.2.2.2.2.2.2.1 s.2.2.2.2.2.2.2)
    (fun x y i c => impl_ChannelSheet_1_2 x y i c.1 c.2.1 c.2.2.1 c.2.2.2.1 c.2.2.2.2.1 c.2.2.2.2.2.1 c.2.2.2.2.2.2) (fun _ _ _ => rfl) (fun _ _ => rfl)
    (fun s => ((p : Int), (q : Int), (w : Int), (h : Int), b, s, m)) f (fun _ s => s.length = w * h) (fun x y hx hy s hI => by
      refine ⟨?_, hf _ s hI⟩
      have hlt := row_lt hx hy
      show impl_ChannelSheet_1_2 x y ((x + w * y : Nat) : Int) p q w h b s m = _
      unfold impl_ChannelSheet_1_2
      rw [(in_eq _ _ _).2, some_bind', idx_nat, List.getElem?_eq_getElem (show x + w * y < s.length by omega), some_bind', setF_nat (by omega), some_bind', ite_some, some_bind']
      simp only [f, cell_div hx]) l ll
  obtain ⟨F1, F2⟩ := fold_set (f := f) (fun i => !(decide (((i / w : Nat) : Int) ≥ p) && decide (((i / w : Nat) : Int) ≤ q))) (fun _ _ => some 0) (fun _ _ => rfl) l (w * h) (by omega)
  refine ⟨foldN f (w * h) l, ?_, by rw [F1, ll], fun i hi => ?_⟩
  · unfold impl_ChannelSheet impl_Sheet_each__impl_ChannelSheet_1
    have c1 : (decide ((p : Int) ≥ 0) && decide ((p : Int) ≤ q)) = true := by simp; omega
    have c2 : (decide ((q : Int) ≥ 0) && decide ((q : Int) ≤ (h : Int) - 1)) = true := by simp; omega
    rw [hv]
    simp only [(in_eq _ _ _).2, wrap_small (n := (h : Int) - 1) (by omega) (by omega), some_bind', c1, c2, Bool.not_true, Bool.false_eq_true, if_false, copySheet_eq b l m w1 w2 k1 k2 ll lm hv]
    rw [B.1]; rfl
  · rw [F2 i (by omega)]
    simp only [hi, true_and]

theorem still_cells : ∃ S : List Int, impl_StillCells w h b l m = some (S, true) ∧ S.length ≤ 256 ∧ ∀ i : Nat, i < w * h → (S.any fun k => k == (i : Int)) = fcmp .eql .f32 (l[i]?.getD none) (some 0) := by
  have hn := area_le w2 k2
  let f := fun (k : Nat) (s : List Int) => if fcmp .eql .f32 (l[k]?.getD none) (some 0) = true then s ++ [(k : Int)] else s
  have hf : ∀ k s, s.length ≤ k → (f k s).length ≤ k + 1 := by
    intro k s hk
    simp only [f]
    split
    · simp; omega
    · omega
  have J : ∀ y, y < h → ∀ s : List Int, s.length ≤ w * y → loopF (fun (s : ((List (Int)) × Int)) => impl_cellsBy__impl_StillCells_1.s1 w h b l m w h b l m y s.1 s.2) (s, 0) = some ((w : Int), false, foldN (fun x => f (x + w * y)) w s) ∧ (foldN (fun x => f (x + w * y)) w s).length ≤ w + w * y := by
    intro y hy s hs
    exact loop_fold (step := fun (s : ((List (Int)) × Int)) => impl_cellsBy__impl_StillCells_1.s1 w h b l m w h b l m y s.1 s.2) (fun s k => (s, (k : Int))) (fun x => f (x + w * y)) (fun k s => s.length ≤ k + w * y) w (fun s => ((w : Int), false, s)) s (by simpa using hs) (fun k s hk hI => by
      have hlt := row_lt hk hy
      refine ⟨?_, by have := hf (k + w * y) s hI; omega⟩
      show impl_cellsBy__impl_StillCells_1.s1 w h b l m w h b l m y s (k : Int) = _
      unfold impl_cellsBy__impl_StillCells_1.s1 impl_StillCells_1
      rw [if_pos (by simp; omega), at_eq b l m w2 k2 hk hy, some_bind', idx_nat, List.getElem?_eq_getElem (show k + w * y < l.length by omega), some_bind', some_bind', some_bind', if_pos (show s.length + [((k + w * y : Nat) : Int)].length ≤ 1000000000 by simp; omega), ite_some, some_bind', one_more (by omega)]
      simp only [f, List.getElem?_eq_getElem (show k + w * y < l.length by omega), Option.getD_some]) (fun s hI => by
      show impl_cellsBy__impl_StillCells_1.s1 w h b l m w h b l m y s (w : Int) = _
      unfold impl_cellsBy__impl_StillCells_1.s1
      rw [if_neg (by simp)]
      simp)
  have B := loop_fold (step := fun (s : ((List (Int)) × Int)) => impl_cellsBy__impl_StillCells_1.s0 w h b l m w h b l m s.1 s.2) (fun s k => (s, (k : Int))) (fun y t => foldN (fun x => f (x + w * y)) w t) (fun y s => s.length ≤ w * y) h (fun s => ((h : Int), false, s)) [] (by simp) (fun y s hy hI => by
    obtain ⟨j1, j2⟩ := J y hy s hI
    refine ⟨?_, by rw [Nat.mul_succ]; omega⟩
    show impl_cellsBy__impl_StillCells_1.s0 w h b l m w h b l m s (y : Int) = _
    unfold impl_cellsBy__impl_StillCells_1.s0
    rw [if_pos (by simp; omega), j1, some_bind']
    simp only
    rw [one_more (by omega)]) (fun s hI => by
    show impl_cellsBy__impl_StillCells_1.s0 w h b l m w h b l m s (h : Int) = _
    unfold impl_cellsBy__impl_StillCells_1.s0
    rw [if_neg (by simp)]
    simp)
  rw [foldN_rows] at B
  refine ⟨foldN f (w * h) [], ?_, by have := B.2; omega, fun i hi => ?_⟩
  · unfold impl_StillCells impl_cellsBy__impl_StillCells_1
    rw [hv]
    have := B.1; simp only [Int.ofNat_zero] at this; simp only [some_bind', Bool.not_true, Bool.false_eq_true, if_false, this]
  · have I : ∀ n, ((foldN f n []).any fun k => k == (i : Int)) = (decide (i < n) && fcmp .eql .f32 (l[i]?.getD none) (some 0)) := by
      intro n
      induction n with
      | zero => simp [foldN]
      | succ n ih =>
        show ((f n (foldN f n [])).any fun k => k == (i : Int)) = _
        simp only [f]
        by_cases hin : i = n
        · subst hin
          cases hc : fcmp .eql .f32 (l[i]?.getD none) (some 0) with
          | true => simp
          | false => rw [if_neg (by simp), ih, hc]; simp
        · have h1 : decide (i < n + 1) = decide (i < n) := by rw [decide_eq_decide]; omega
          have h2 : ((n : Int) == (i : Int)) = false := by simp; omega
          rw [h1, ← ih]
          split
          · rw [List.any_append, List.any_cons, h2, List.any_nil, Bool.or_false, Bool.or_false]
          · rfl
    rw [I, decide_eq_true hi, Bool.true_and]

theorem slit_cells (x0 : Nat) (hx0 : x0 < w) (r : Nat) (hr : r < h) : ∃ L, impl_SlitSheet w h b l m (x0 : Int) [(r : Int)] = some ((w : Int), (h : Int), b, L, m, true) ∧ L.length = w * h ∧
    ∀ i, i < w * h → L[i]? = some (if (decide (i % w = x0) && !(decide (i / w = r))) = true then some 0 else l[i]?.getD none) := by
  have hn := area_le w2 k2
  let f := fun (i : Nat) (s : List (Option Nat)) => if (decide (i % w = x0) && !(decide (i / w = r))) = true then s.set i (some 0) else s
  have hf : ∀ i s, s.length = w * h → (f i s).length = w * h := by
    intro i s hs
    simp only [f]
    split <;> simp [hs]
  have B := each_fold (C := Int × (List (Int × Bool)) × Int × Int × Bool × (List (Option Nat)) × (List (Option Nat))) b l m w2 k2
    (step1 := fun y (s : (Int × Int × (List (Int × Bool)) × Int × Int × Bool × (List (Option Nat)) × (List (Option Nat)))) => impl_Sheet_each__impl_SlitSheet_1.s1 w h b l m y s.1 s.2.1 s.2.2.1 s.2.2.2.1 s.2.2.2.2.1 s.2.2.2.2.2.1 s.2.2.2.2.2.2.1 s.2.2.2.2.2.2.2)
    (step0 := fun (s : (Int × Int × (List (Int × Bool)) × Int × Int × Bool × (List (Option Nat)) × (List (Option Nat)))) => impl_Sheet_each__impl_SlitSheet_1.s0 w h b l m s.1 s.2.1 s.2.2.1 s.2.2.2.1 s.2.2.2.2.1 s.2.2.2.2.2.1 s.2.2.2.2.2.2.1 s.2.2.2.2.2.2.2)
    (fun x y i c => impl_SlitSheet_1 x y i c.1 c.2.1 c.2.2.1 c.2.2.2.1 c.2.2.2.2.1 c.2.2.2.2.2.1 c.2.2.2.2.2.2) (fun _ _ _ => rfl) (fun _ _ => rfl)
    (fun s => ((x0 : Int), [((r : Int), true)], (w : Int), (h : Int), b, s, m)) f (fun _ s => s.length = w * h) (fun x y hx hy s hI => by
      refine ⟨?_, hf _ s hI⟩
      have hlt := row_lt hx hy
      show impl_SlitSheet_1 x y ((x + w * y : Nat) : Int) x0 [((r : Int), true)] w h b s m = _
      unfold impl_SlitSheet_1
      have hm : mapGet [((r : Int), true)] (y : Int) = decide (y = r) := by
        unfold mapGet
        by_cases hyr : y = r
        · subst hyr; simp
        · have h2 : ((r : Int) == (y : Int)) = false := by simp; omega
          rw [List.find?_cons, h2]; simp [hyr]
      have hxx : (((x : Int) == (x0 : Int)) : Bool) = decide (x = x0) := by
        rw [Bool.eq_iff_iff]; simp; omega
      rw [hm, hxx, ite_andB, some_bind', idx_nat, List.getElem?_eq_getElem (show x + w * y < s.length by omega), some_bind', setF_nat (by omega), some_bind', ite_some, some_bind']
      simp only [f, cell_div hx, cell_mod hx]) l ll
  obtain ⟨F1, F2⟩ := fold_set (f := f) (fun i => decide (i % w = x0) && !(decide (i / w = r))) (fun _ _ => some 0) (fun _ _ => rfl) l (w * h) (by omega)
  refine ⟨foldN f (w * h) l, ?_, by rw [F1, ll], fun i hi => ?_⟩
  · unfold impl_SlitSheet impl_Sheet_each__impl_SlitSheet_1 impl_isValidCell impl_Sheet_isCell
    have c1 : (decide ((x0 : Int) ≥ 0) && decide ((x0 : Int) ≤ (w : Int) - 1)) = true := by simp; omega
    have c2 : (decide ((0 : Int) ≥ 0) && decide ((0 : Int) ≤ (h : Int) - 1)) = true := by simp; omega
    have c3 : (decide ((r : Int) ≥ 0) && decide ((r : Int) ≤ (h : Int) - 1)) = true := by simp; omega
    have s1 : (fun (s : (Bool × Int × Int × (List (Int × Bool)))) => impl_SlitSheet.s0 h [(r : Int)] s.1 s.2.1 s.2.2.1 s.2.2.2) (false, (-1), 0, ([] : List (Int × Bool))) = some (.inl (false, (r : Int), 1, [((r : Int), true)])) := by
      show impl_SlitSheet.s0 h [(r : Int)] false (-1) 0 [] = _
      unfold impl_SlitSheet.s0
      have e0 : IntKind.wrap .i64 ((-1 : Int) + 1) = 0 := by decide
      have e1 : idx [(r : Int)] 0 = some (r : Int) := rfl
      rw [if_pos (by simp), e1, some_bind', (in_eq _ _ _).2, e0, wrap_small (n := (h : Int) - 1) (by omega) (by omega), c3]
      rfl
    have s2 : (fun (s : (Bool × Int × Int × (List (Int × Bool)))) => impl_SlitSheet.s0 h [(r : Int)] s.1 s.2.1 s.2.2.1 s.2.2.2) (false, (r : Int), 1, [((r : Int), true)]) = some (.inr (.inl (false, (r : Int), 1, false, [((r : Int), true)]))) := by
      show impl_SlitSheet.s0 h [(r : Int)] false (r : Int) 1 [((r : Int), true)] = _
      unfold impl_SlitSheet.s0
      rw [if_neg (by simp)]
      rfl
    rw [hv, loopF_next s1, loopF_stop s2]
    simp only [(in_eq _ _ _).2, wrap_small (n := (w : Int) - 1) (by omega) (by omega), wrap_small (n := (h : Int) - 1) (by omega) (by omega), some_bind', c1, c2, if_true, Bool.not_true, Bool.false_eq_true, if_false, copySheet_eq b l m w1 w2 k1 k2 ll lm hv]
    rw [B.1]; rfl
  · rw [F2 i (by omega)]
    simp only [hi, true_and]
end
end Go.H
