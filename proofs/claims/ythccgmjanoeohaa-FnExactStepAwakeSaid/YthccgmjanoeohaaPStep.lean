/- One step of a field: both texts' are the same. -/
import Derived.Test.YthccgmjanoeohaaGStep1
import Derived.Test.YthccgmjanoeohaaGStep2
import Derived.Test.YthccgmjanoeohaaPCells
import Derived.Test.YthccgmjanoeohaaPField2
set_option linter.unusedVariables false
namespace Go.H
open Go Ieee

theorem at_spec (w h : Int) (b : Bool) (l m : List (Option Nat)) (x y : Int) : spec_l03At w h b l m x y = impl_Sheet_at w h b l m x y := rfl

theorem set_same {s x : List (Option Nat)} {i : Nat} (hi : i < x.length) (hs : s[i]? = x[i]?) : s.set i x[i] = s := by
  rw [List.getElem?_eq_getElem hi] at hs
  obtain ⟨h1, h2⟩ := List.getElem?_eq_some_iff.1 hs
  rw [← h2]; exact List.set_getElem_self h1

section
variable {w h cx cy : Nat} (b : Bool) (l m e x y : List (Option Nat)) (w1 : 3 ≤ w) (w2 : w ≤ 16) (k1 : 3 ≤ h) (k2 : h ≤ 16) (hx : cx < w) (hy : cy < h)
include w1 w2 k1 k2 hx hy

theorem halfX_cell (le : e.length = w * h) (lx : x.length = w * h) : ∃ v, spec_l03HalfX w h b l m e x y cx cy = some v ∧ ∀ s : List (Option Nat), s.length = w * h → s[cx + w * cy]? = x[cx + w * cy]? →
    (if (b || decide (cy + 1 < h)) = true then ((idx s ((cx + w * cy : Nat) : Int)).bind fun (x18 : Option Nat) => ((impl_Sheet_at w h b l m cx (IntKind.wrap .i64 ((cy : Int) + 1))).bind fun (x19 : Int) => ((idx e x19).bind fun (x20 : Option Nat) => ((idx e ((cx + w * cy : Nat) : Int)).bind fun (x21 : Option Nat) => ((idx s ((cx + w * cy : Nat) : Int)).bind fun (x22 : Option Nat) => ((setF s ((cx + w * cy : Nat) : Int) (fop .sub .f32 x18 (fop .mul .f32 (some 1056964608) (fop .sub .f32 x20 x21)))).bind fun (x23 : List (Option Nat)) => some x23)))))) else some s) = some (s.set (cx + w * cy) v) := by
  have hi := row_lt hx hy
  have hn := area_le w2 k2
  obtain ⟨j, hj, ej⟩ := at_near (x := (cx : Int)) (y := ((cy + 1 : Nat) : Int)) b l m (by omega) (by omega) w2 k2 ⟨by omega, by omega⟩ ⟨by omega, by omega⟩
  unfold spec_l03HalfX
  rw [at_spec, at_eq b l m w2 k2 hx hy, some_bind', one_more (by omega), at_spec, ej]
  have c : (if (!b) = true then some ((cy : Int) == (IntKind.wrap .i64 ((h : Int) - 1))) else some false) = some (!(b || decide (cy + 1 < h))) := by
    rw [wrap_small (by omega) (by omega)]
    cases b with
    | true => rfl
    | false =>
      simp only [Bool.not_false, if_true, Bool.false_or]
      congr 1
      rw [Bool.eq_iff_iff]
      simp
      omega
  rw [c, some_bind']
  have i1 : cx + w * cy < x.length := by omega
  have i2 : cx + w * cy < e.length := by omega
  have i3 : j < e.length := by omega
  cases hc : (b || decide (cy + 1 < h)) with
  | false =>
    refine ⟨x[cx + w * cy], by simp only [Bool.not_false, if_true, idx_nat, List.getElem?_eq_getElem i1, some_bind'], fun s hs hsx => ?_⟩
    rw [if_neg (by simp), set_same i1 hsx]
  | true =>
    refine ⟨fop .sub .f32 x[cx + w * cy] (fop .mul .f32 (some 1056964608) (fop .sub .f32 e[j] e[cx + w * cy])), by simp only [Bool.not_true, Bool.false_eq_true, if_false, idx_nat, List.getElem?_eq_getElem i1, List.getElem?_eq_getElem i2, List.getElem?_eq_getElem i3, some_bind'], fun s hs hsx => ?_⟩
    simp only [if_true, idx_nat, hsx, List.getElem?_eq_getElem i1, List.getElem?_eq_getElem i2, List.getElem?_eq_getElem i3, some_bind', setF_nat (show cx + w * cy < s.length by omega)]

theorem halfY_cell (le : e.length = w * h) (ly : y.length = w * h) : ∃ v, spec_l03HalfY w h b l m e x y cx cy = some v ∧ ∀ s : List (Option Nat), s.length = w * h → s[cx + w * cy]? = y[cx + w * cy]? →
    (if (b || decide (cx + 1 < w)) = true then ((idx s ((cx + w * cy : Nat) : Int)).bind fun (x18 : Option Nat) => ((impl_Sheet_at w h b l m (IntKind.wrap .i64 ((cx : Int) + 1)) cy).bind fun (x19 : Int) => ((idx e x19).bind fun (x20 : Option Nat) => ((idx e ((cx + w * cy : Nat) : Int)).bind fun (x21 : Option Nat) => ((idx s ((cx + w * cy : Nat) : Int)).bind fun (x22 : Option Nat) => ((setF s ((cx + w * cy : Nat) : Int) (fop .add .f32 x18 (fop .mul .f32 (some 1056964608) (fop .sub .f32 x20 x21)))).bind fun (x23 : List (Option Nat)) => some x23)))))) else some s) = some (s.set (cx + w * cy) v) := by
  have hi := row_lt hx hy
  have hn := area_le w2 k2
  obtain ⟨j, hj, ej⟩ := at_near (x := ((cx + 1 : Nat) : Int)) (y := (cy : Int)) b l m (by omega) (by omega) w2 k2 ⟨by omega, by omega⟩ ⟨by omega, by omega⟩
  unfold spec_l03HalfY
  rw [at_spec, at_eq b l m w2 k2 hx hy, some_bind', one_more (by omega), at_spec, ej]
  have c : (if (!b) = true then some ((cx : Int) == (IntKind.wrap .i64 ((w : Int) - 1))) else some false) = some (!(b || decide (cx + 1 < w))) := by
    rw [wrap_small (by omega) (by omega)]
    cases b with
    | true => rfl
    | false =>
      simp only [Bool.not_false, if_true, Bool.false_or]
      congr 1
      rw [Bool.eq_iff_iff]
      simp
      omega
  rw [c, some_bind']
  have i1 : cx + w * cy < y.length := by omega
  have i2 : cx + w * cy < e.length := by omega
  have i3 : j < e.length := by omega
  cases hc : (b || decide (cx + 1 < w)) with
  | false =>
    refine ⟨y[cx + w * cy], by simp only [Bool.not_false, if_true, idx_nat, List.getElem?_eq_getElem i1, some_bind'], fun s hs hsx => ?_⟩
    rw [if_neg (by simp), set_same i1 hsx]
  | true =>
    refine ⟨fop .add .f32 y[cx + w * cy] (fop .mul .f32 (some 1056964608) (fop .sub .f32 e[j] e[cx + w * cy])), by simp only [Bool.not_true, Bool.false_eq_true, if_false, idx_nat, List.getElem?_eq_getElem i1, List.getElem?_eq_getElem i2, List.getElem?_eq_getElem i3, some_bind'], fun s hs hsx => ?_⟩
    simp only [if_true, idx_nat, hsx, List.getElem?_eq_getElem i1, List.getElem?_eq_getElem i2, List.getElem?_eq_getElem i3, some_bind', setF_nat (show cx + w * cy < s.length by omega)]

theorem rest_cell (le : e.length = w * h) (lx : x.length = w * h) (ly : y.length = w * h) (ll : l.length = w * h) (lm : m.length = w * h) : ∃ v c, spec_l03Rest w h b l m e x y cx cy = some v ∧ impl_Sheet_isBorder w h b l m cx cy = some c ∧ ∀ s : List (Option Nat), s.length = w * h → s[cx + w * cy]? = e[cx + w * cy]? →
    (if (!c) = true then ((impl_Sheet_at w h b l m cx cy).bind fun (x15 : Int) => ((impl_newValue w h b l m s x y cx cy).bind fun (x16 : Option Nat) => ((idx s x15).bind fun (x17 : Option Nat) => ((setF s x15 x16).bind fun (x18 : List (Option Nat)) => some x18)))) else some s) = some (s.set (cx + w * cy) v) := by
  have hi := row_lt hx hy
  have hn := area_le w2 k2
  obtain ⟨j, hj, ej⟩ := at_near (x := (cx : Int) - 1) (y := (cy : Int)) b l m (by omega) (by omega) w2 k2 ⟨by omega, by omega⟩ ⟨by omega, by omega⟩
  obtain ⟨k, hk, ek⟩ := at_near (x := (cx : Int)) (y := (cy : Int) - 1) b l m (by omega) (by omega) w2 k2 ⟨by omega, by omega⟩ ⟨by omega, by omega⟩
  unfold spec_l03Rest impl_newValue
  rw [border_eq, border_eq', wrap_small (n := (cx : Int) - 1) (by omega) (by omega), wrap_small (n := (cy : Int) - 1) (by omega) (by omega)]
  simp only [at_spec, at_eq b l m w2 k2 hx hy, some_bind', ej, ek]
  generalize hc : (!b && ((cx : Int) == 0 || ((cx : Int) == IntKind.wrap .i64 ((w : Int) - 1) || ((cy : Int) == 0 || (cy : Int) == IntKind.wrap .i64 ((h : Int) - 1))))) = c
  have hc' : (if (!b) = true then some c else some false) = some c := by
    cases b with
    | true => rw [← hc]; rfl
    | false => rfl
  rw [hc', some_bind']
  have i1 : cx + w * cy < y.length := by omega
  have i2 : cx + w * cy < e.length := by omega
  have i3 : cx + w * cy < x.length := by omega
  have i4 : cx + w * cy < l.length := by omega
  have i5 : cx + w * cy < m.length := by omega
  have i6 : j < y.length := by omega
  have i7 : k < x.length := by omega
  cases c with
  | true =>
    refine ⟨e[cx + w * cy], true, by simp only [if_true, idx_nat, List.getElem?_eq_getElem i2, some_bind'], rfl, fun s hs hsx => ?_⟩
    rw [if_neg (by simp), set_same i2 hsx]
  | false =>
    refine ⟨fop .add .f32 (fop .mul .f32 e[cx + w * cy] (fop .sub .f32 (some 1065353216) m[cx + w * cy])) (fop .mul .f32 l[cx + w * cy] (fop .sub .f32 (fop .sub .f32 y[cx + w * cy] y[j]) (fop .sub .f32 x[cx + w * cy] x[k]))), false, ?_, rfl, fun s hs hsx => ?_⟩
    · simp only [Bool.false_eq_true, if_false, idx_nat, List.getElem?_eq_getElem i1, List.getElem?_eq_getElem i2, List.getElem?_eq_getElem i3, List.getElem?_eq_getElem i4, List.getElem?_eq_getElem i5, List.getElem?_eq_getElem i6, List.getElem?_eq_getElem i7, some_bind']
    · simp only [Bool.not_false, if_true, hsx, idx_nat, List.getElem?_eq_getElem i1, List.getElem?_eq_getElem i2, List.getElem?_eq_getElem i3, List.getElem?_eq_getElem i4, List.getElem?_eq_getElem i5, List.getElem?_eq_getElem i6, List.getElem?_eq_getElem i7, some_bind', setF_nat (show cx + w * cy < s.length by omega)]
end

section
variable {w h : Nat} (b : Bool) (l m e x y : List (Option Nat)) (w1 : 3 ≤ w) (w2 : w ≤ 16) (k1 : 3 ≤ h) (k2 : h ≤ 16) (le : e.length = w * h) (lx : x.length = w * h) (ly : y.length = w * h)
include w1 w2 k1 k2 le lx ly

theorem half_step : ∃ X Y : List (Option Nat), X.length = w * h ∧ Y.length = w * h ∧ spec_l03Half w h b l m e x y = some (e, X, Y) ∧ impl_halfStep_o w h b l m e x y = some (e, X, Y) := by
  have hn := area_le w2 k2
  let vX := fun (i : Nat) => (spec_l03HalfX w h b l m e x y ((i % w : Nat) : Int) ((i / w : Nat) : Int)).getD none
  let vY := fun (i : Nat) => (spec_l03HalfY w h b l m e x y ((i % w : Nat) : Int) ((i / w : Nat) : Int)).getD none
  let f := fun (i : Nat) (s : List (Option Nat) × List (Option Nat)) => (s.1.set i (vX i), s.2.set i (vY i))
  let I := fun (i : Nat) (s : List (Option Nat) × List (Option Nat)) => s.1.length = w * h ∧ s.2.length = w * h ∧ (∀ j, i ≤ j → s.1[j]? = x[j]?) ∧ ∀ j, i ≤ j → s.2[j]? = y[j]?
  have hI : ∀ i s, I i s → I (i + 1) (f i s) := by
    intro i s hs
    obtain ⟨p1, p2, p3, p4⟩ := hs
    refine ⟨by simp [f, p1], by simp [f, p2], fun j hj => ?_, fun j hj => ?_⟩
    · simp only [f]; rw [List.getElem?_set_ne (by omega)]; exact p3 j (by omega)
    · simp only [f]; rw [List.getElem?_set_ne (by omega)]; exact p4 j (by omega)
  have A := nest_fold (w := w) (h := h) (step0 := fun (s : (Int × (List (Option Nat)) × (List (Option Nat)))) => spec_l03Half.s0 w h b l m e x y s.1 s.2.1 s.2.2) (step1 := fun q (s : (Int × (List (Option Nat)) × (List (Option Nat)))) => spec_l03Half.s1 w h b l m e x y (q : Int) s.1 s.2.1 s.2.2)
    (fun s k => ((k : Int), s.1, s.2)) (fun s k => ((k : Int), s.1, s.2)) (fun s => ((h : Int), false, s.1, s.2)) (fun s => ((w : Int), false, s.1, s.2)) f I (fun cy hy cx hx s hs => by
      refine ⟨?_, hI _ s hs⟩
      obtain ⟨p1, p2, p3, p4⟩ := hs
      have hi := row_lt hx hy
      obtain ⟨v, g1, _⟩ := halfX_cell b l m e x y w1 w2 k1 k2 hx hy le lx
      obtain ⟨u, g2, _⟩ := halfY_cell b l m e x y w1 w2 k1 k2 hx hy le ly
      have c1 : vX (cx + w * cy) = v := by simp only [vX, cell_mod hx, cell_div hx, g1, Option.getD_some]
      have c2 : vY (cx + w * cy) = u := by simp only [vY, cell_mod hx, cell_div hx, g2, Option.getD_some]
      show spec_l03Half.s1 w h b l m e x y (cy : Int) (cx : Int) s.1 s.2 = _
      unfold spec_l03Half.s1
      rw [if_pos (by simp; omega)]
      simp only [at_spec, at_eq b l m w2 k2 hx hy, some_bind', g1, g2, idx_nat, List.getElem?_eq_getElem (show cx + w * cy < s.1.length by omega), List.getElem?_eq_getElem (show cx + w * cy < s.2.length by omega), setF_nat (show cx + w * cy < s.1.length by omega), setF_nat (show cx + w * cy < s.2.length by omega), one_more (show cx ≤ 1000000000 by omega), f, c1, c2]) (fun cy hy s hs => by
      show spec_l03Half.s1 w h b l m e x y (cy : Int) (w : Int) s.1 s.2 = _
      unfold spec_l03Half.s1
      rw [if_neg (by simp)]
      simp) (fun cy hy s s' hs => by
      show spec_l03Half.s0 w h b l m e x y (cy : Int) s.1 s.2 = _
      unfold spec_l03Half.s0
      rw [if_pos (by simp; omega)]
      have hs' := hs
      simp only [Int.ofNat_zero] at hs'
      rw [hs']
      simp only [some_bind', one_more (show cy ≤ 1000000000 by omega)]) (fun s hs => by
      show spec_l03Half.s0 w h b l m e x y (h : Int) s.1 s.2 = _
      unfold spec_l03Half.s0
      rw [if_neg (by simp)]
      simp) (x, y) ⟨lx, ly, fun _ _ => rfl, fun _ _ => rfl⟩
  have B := nest_fold (w := w) (h := h) (step0 := fun (s : (Int × (List (Option Nat)) × (List (Option Nat)))) => impl_halfStep_o.s0 w h b l m e s.1 s.2.1 s.2.2) (step1 := fun q (s : (Int × (List (Option Nat)) × (List (Option Nat)))) => impl_halfStep_o.s1 w h b l m e (q : Int) s.1 s.2.1 s.2.2)
    (fun s k => ((k : Int), s.1, s.2)) (fun s k => ((k : Int), s.1, s.2)) (fun s => ((h : Int), false, s.1, s.2)) (fun s => ((w : Int), false, s.1, s.2)) f I (fun cy hy cx hx s hs => by
      refine ⟨?_, hI _ s hs⟩
      obtain ⟨p1, p2, p3, p4⟩ := hs
      have hi := row_lt hx hy
      obtain ⟨v, g1, t1⟩ := halfX_cell b l m e x y w1 w2 k1 k2 hx hy le lx
      obtain ⟨u, g2, t2⟩ := halfY_cell b l m e x y w1 w2 k1 k2 hx hy le ly
      have c1 : vX (cx + w * cy) = v := by simp only [vX, cell_mod hx, cell_div hx, g1, Option.getD_some]
      have c2 : vY (cx + w * cy) = u := by simp only [vY, cell_mod hx, cell_div hx, g2, Option.getD_some]
      have d1 : (if b = true then some true else some (decide ((cy : Int) < IntKind.wrap .i64 ((h : Int) - 1)))) = some (b || decide (cy + 1 < h)) := by
        rw [wrap_small (by omega) (by omega)]
        cases b with
        | true => rfl
        | false => simp; omega
      have d2 : (if b = true then some true else some (decide ((cx : Int) < IntKind.wrap .i64 ((w : Int) - 1)))) = some (b || decide (cx + 1 < w)) := by
        rw [wrap_small (by omega) (by omega)]
        cases b with
        | true => rfl
        | false => simp; omega
      show impl_halfStep_o.s1 w h b l m e (cy : Int) (cx : Int) s.1 s.2 = _
      unfold impl_halfStep_o.s1
      rw [if_pos (by simp; omega), at_eq b l m w2 k2 hx hy, some_bind', d1, some_bind', t1 s.1 p1 (p3 _ (Nat.le_refl _)), some_bind', d2, some_bind', t2 s.2 p2 (p4 _ (Nat.le_refl _)), some_bind', one_more (by omega)]
      simp only [f, c1, c2]) (fun cy hy s hs => by
      show impl_halfStep_o.s1 w h b l m e (cy : Int) (w : Int) s.1 s.2 = _
      unfold impl_halfStep_o.s1
      rw [if_neg (by simp)]
      simp) (fun cy hy s s' hs => by
      show impl_halfStep_o.s0 w h b l m e (cy : Int) s.1 s.2 = _
      unfold impl_halfStep_o.s0
      rw [if_pos (by simp; omega)]
      have hs' := hs
      simp only [Int.ofNat_zero] at hs'
      rw [hs']
      simp only [some_bind', one_more (show cy ≤ 1000000000 by omega)]) (fun s hs => by
      show impl_halfStep_o.s0 w h b l m e (h : Int) s.1 s.2 = _
      unfold impl_halfStep_o.s0
      rw [if_neg (by simp)]
      simp) (x, y) ⟨lx, ly, fun _ _ => rfl, fun _ _ => rfl⟩
  refine ⟨(foldN f (w * h) (x, y)).1, (foldN f (w * h) (x, y)).2, A.2.1, A.2.2.1, ?_, ?_⟩
  · unfold spec_l03Half
    rw [(ownF_eq (show e.length ≤ 1000000000 by omega) (show x.length ≤ 1000000000 by omega) (show y.length ≤ 1000000000 by omega)).1, some_bind']
    have := A.1
    simp only [Int.ofNat_zero] at this
    rw [this]; rfl
  · unfold impl_halfStep_o
    have := B.1
    simp only [Int.ofNat_zero] at this
    rw [this]; rfl

theorem full_step (ll : l.length = w * h) (lm : m.length = w * h) : ∃ E X Y : List (Option Nat), E.length = w * h ∧ X.length = w * h ∧ Y.length = w * h ∧ spec_l03Step w h b l m e x y = some (E, X, Y) ∧ impl_stepped w h b l m e x y = some (E, X, Y) := by
  have hn := area_le w2 k2
  obtain ⟨X, Y, lX, lY, s1, s2⟩ := half_step b l m e x y w1 w2 k1 k2 le lx ly
  let v := fun (i : Nat) => (spec_l03Rest w h b l m e X Y ((i % w : Nat) : Int) ((i / w : Nat) : Int)).getD none
  let f := fun (i : Nat) (s : List (Option Nat)) => s.set i (v i)
  let I := fun (i : Nat) (s : List (Option Nat)) => s.length = w * h ∧ ∀ j, i ≤ j → s[j]? = e[j]?
  have hI : ∀ i s, I i s → I (i + 1) (f i s) := by
    intro i s hs
    obtain ⟨p1, p3⟩ := hs
    refine ⟨by simp [f, p1], fun j hj => ?_⟩
    simp only [f]; rw [List.getElem?_set_ne (by omega)]; exact p3 j (by omega)
  have A := nest_fold (w := w) (h := h) (step0 := fun (s : (Int × (List (Option Nat)))) => spec_l03Step.s0 w h b l m (e, X, Y) s.1 s.2) (step1 := fun q (s : (Int × (List (Option Nat)))) => spec_l03Step.s1 w h b l m (e, X, Y) (q : Int) s.1 s.2)
    (fun s k => ((k : Int), s)) (fun s k => ((k : Int), s)) (fun s => ((h : Int), false, s)) (fun s => ((w : Int), false, s)) f I (fun cy hy cx hx s hs => by
      refine ⟨?_, hI _ s hs⟩
      obtain ⟨p1, p3⟩ := hs
      have hi := row_lt hx hy
      obtain ⟨u, c, g1, g2, _⟩ := rest_cell b l m e X Y w1 w2 k1 k2 hx hy le lX lY ll lm
      have c1 : v (cx + w * cy) = u := by simp only [v, cell_mod hx, cell_div hx, g1, Option.getD_some]
      show spec_l03Step.s1 w h b l m (e, X, Y) (cy : Int) (cx : Int) s = _
      unfold spec_l03Step.s1
      rw [if_pos (by simp; omega)]
      simp only [at_spec, at_eq b l m w2 k2 hx hy, some_bind', g1, idx_nat, List.getElem?_eq_getElem (show cx + w * cy < s.length by omega), setF_nat (show cx + w * cy < s.length by omega), one_more (show cx ≤ 1000000000 by omega), f, c1]) (fun cy hy s hs => by
      show spec_l03Step.s1 w h b l m (e, X, Y) (cy : Int) (w : Int) s = _
      unfold spec_l03Step.s1
      rw [if_neg (by simp)]
      simp) (fun cy hy s s' hs => by
      show spec_l03Step.s0 w h b l m (e, X, Y) (cy : Int) s = _
      unfold spec_l03Step.s0
      rw [if_pos (by simp; omega)]
      have hs' := hs
      simp only [Int.ofNat_zero] at hs'
      rw [hs']
      simp only [some_bind', one_more (show cy ≤ 1000000000 by omega)]) (fun s hs => by
      show spec_l03Step.s0 w h b l m (e, X, Y) (h : Int) s = _
      unfold spec_l03Step.s0
      rw [if_neg (by simp)]
      simp) e ⟨le, fun _ _ => rfl⟩
  have B := nest_fold (w := w) (h := h) (step0 := fun (s : (Int × (List (Option Nat)))) => impl_stepped.s0 w h b l m (e, X, Y) s.1 s.2) (step1 := fun q (s : (Int × (List (Option Nat)))) => impl_stepped.s1 w h b l m (e, X, Y) (q : Int) s.1 s.2)
    (fun s k => ((k : Int), s)) (fun s k => ((k : Int), s)) (fun s => ((h : Int), false, s)) (fun s => ((w : Int), false, s)) f I (fun cy hy cx hx s hs => by
      refine ⟨?_, hI _ s hs⟩
      obtain ⟨p1, p3⟩ := hs
      have hi := row_lt hx hy
      obtain ⟨u, c, g1, g2, t⟩ := rest_cell b l m e X Y w1 w2 k1 k2 hx hy le lX lY ll lm
      have c1 : v (cx + w * cy) = u := by simp only [v, cell_mod hx, cell_div hx, g1, Option.getD_some]
      show impl_stepped.s1 w h b l m (e, X, Y) (cy : Int) (cx : Int) s = _
      unfold impl_stepped.s1
      rw [if_pos (by simp; omega), g2, some_bind', t s p1 (p3 _ (Nat.le_refl _)), some_bind', one_more (by omega)]
      simp only [f, c1]) (fun cy hy s hs => by
      show impl_stepped.s1 w h b l m (e, X, Y) (cy : Int) (w : Int) s = _
      unfold impl_stepped.s1
      rw [if_neg (by simp)]
      simp) (fun cy hy s s' hs => by
      show impl_stepped.s0 w h b l m (e, X, Y) (cy : Int) s = _
      unfold impl_stepped.s0
      rw [if_pos (by simp; omega)]
      have hs' := hs
      simp only [Int.ofNat_zero] at hs'
      rw [hs']
      simp only [some_bind', one_more (show cy ≤ 1000000000 by omega)]) (fun s hs => by
      show impl_stepped.s0 w h b l m (e, X, Y) (h : Int) s = _
      unfold impl_stepped.s0
      rw [if_neg (by simp)]
      simp) e ⟨le, fun _ _ => rfl⟩
  refine ⟨foldN f (w * h) e, X, Y, A.2.1, lX, lY, ?_, ?_⟩
  · unfold spec_l03Step
    rw [s1, some_bind']
    simp only
    rw [(ownF_eq (show e.length ≤ 1000000000 by omega) (show X.length ≤ 1000000000 by omega) (show Y.length ≤ 1000000000 by omega)).1, some_bind']
    have := A.1
    simp only [Int.ofNat_zero] at this
    rw [this]; rfl
  · unfold impl_stepped
    rw [(ownF_eq (show e.length ≤ 1000000000 by omega) (show x.length ≤ 1000000000 by omega) (show y.length ≤ 1000000000 by omega)).2, some_bind']
    simp only
    rw [s2, some_bind']
    have := B.1
    simp only [Int.ofNat_zero] at this
    rw [this]; rfl
end
end Go.H
