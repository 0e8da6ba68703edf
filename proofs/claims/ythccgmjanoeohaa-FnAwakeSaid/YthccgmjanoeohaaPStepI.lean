/- One step of a field: what the program's gives, cell by cell. -/
import Derived.Test.YthccgmjanoeohaaGStep2
import Derived.Test.YthccgmjanoeohaaPSleepI
set_option linter.unusedVariables false
namespace Go.H
open Go Ieee

theorem set_same {s x : List (Option Nat)} {i : Nat} (hi : i < x.length) (hs : s[i]? = x[i]?) : s.set i (x[i]?.getD none) = s := by
  rw [List.getElem?_eq_getElem hi] at hs ⊢
  obtain ⟨h1, h2⟩ := List.getElem?_eq_some_iff.1 hs
  rw [Option.getD_some, ← h2]; exact List.set_getElem_self h1

theorem foldN_set {α : Type} (v : Nat → α) (s : List α) : ∀ n, (foldN (fun i s => s.set i (v i)) n s).length = s.length ∧ ∀ j, j < s.length → (foldN (fun i s => s.set i (v i)) n s)[j]? = if j < n then some (v j) else s[j]?
  | 0 => ⟨rfl, fun j _ => by rw [if_neg (by omega)]; rfl⟩
  | n + 1 => by
    obtain ⟨h1, h2⟩ := foldN_set v s n
    show ((foldN (fun i s => s.set i (v i)) n s).set n (v n)).length = _ ∧ ∀ j, j < s.length → ((foldN (fun i s => s.set i (v i)) n s).set n (v n))[j]? = _
    refine ⟨by rw [List.length_set, h1], fun j hj => ?_⟩
    by_cases hjn : n = j
    · subst hjn
      rw [List.getElem?_set_self (by omega), if_pos (by omega)]
    · rw [List.getElem?_set_ne hjn, h2 j hj]
      by_cases h : j < n
      · rw [if_pos h, if_pos (by omega)]
      · rw [if_neg h, if_neg (by omega)]

def at0 (l : List (Option Nat)) (i : Nat) : Option Nat := l[i]?.getD none
theorem at0_eq {l : List (Option Nat)} {i : Nat} (h : i < l.length) : l[i]? = some (at0 l i) := by
  unfold at0; rw [List.getElem?_eq_getElem h]; rfl

noncomputable def hXv (w h : Nat) (b : Bool) (e x : List (Option Nat)) (cx cy : Nat) : Option Nat :=
  if (b || decide (cy + 1 < h)) = true then fop .sub .f32 (at0 x (cx + w * cy)) (fop .mul .f32 (some 1056964608) (fop .sub .f32 (at0 e (cx + w * cyc h ((cy : Int) + 1))) (at0 e (cx + w * cy)))) else at0 x (cx + w * cy)
noncomputable def hYv (w h : Nat) (b : Bool) (e y : List (Option Nat)) (cx cy : Nat) : Option Nat :=
  if (b || decide (cx + 1 < w)) = true then fop .add .f32 (at0 y (cx + w * cy)) (fop .mul .f32 (some 1056964608) (fop .sub .f32 (at0 e (cyc w ((cx : Int) + 1) + w * cy)) (at0 e (cx + w * cy)))) else at0 y (cx + w * cy)
/-- cells of the rim -/
def rim (w h : Nat) (b : Bool) (cx cy : Nat) : Bool := !b && ((cx : Int) == 0 || ((cx : Int) == IntKind.wrap .i64 ((w : Int) - 1) || ((cy : Int) == 0 || (cy : Int) == IntKind.wrap .i64 ((h : Int) - 1))))
noncomputable def nEv (w h : Nat) (b : Bool) (l m e x y : List (Option Nat)) (cx cy : Nat) : Option Nat :=
  if rim w h b cx cy = true then at0 e (cx + w * cy) else fop .add .f32 (fop .mul .f32 (at0 e (cx + w * cy)) (fop .sub .f32 (some 1065353216) (at0 m (cx + w * cy)))) (fop .mul .f32 (at0 l (cx + w * cy)) (fop .sub .f32 (fop .sub .f32 (at0 y (cx + w * cy)) (at0 y (cyc w ((cx : Int) + -1) + w * cy))) (fop .sub .f32 (at0 x (cx + w * cy)) (at0 x (cx + w * cyc h ((cy : Int) + -1))))))

section
variable {w h : Nat} (b : Bool) (l m e x y : List (Option Nat)) (w1 : 3 ≤ w) (w2 : w ≤ 16) (k1 : 3 ≤ h) (k2 : h ≤ 16) (le : e.length = w * h) (lx : x.length = w * h) (ly : y.length = w * h)
include w1 w2 k1 k2 le lx ly

theorem half_stepI : ∃ X Y : List (Option Nat), X.length = w * h ∧ Y.length = w * h ∧ impl_halfStep_o w h b l m e x y = some (e, X, Y) ∧ ∀ cx cy, cx < w → cy < h → X[cx + w * cy]? = some (hXv w h b e x cx cy) ∧ Y[cx + w * cy]? = some (hYv w h b e y cx cy) := by
  have hn := area_le w2 k2
  let vX := fun (i : Nat) => hXv w h b e x (i % w) (i / w)
  let vY := fun (i : Nat) => hYv w h b e y (i % w) (i / w)
  let f := fun (i : Nat) (s : List (Option Nat) × List (Option Nat)) => (s.1.set i (vX i), s.2.set i (vY i))
  let I := fun (i : Nat) (s : List (Option Nat) × List (Option Nat)) => s.1.length = w * h ∧ s.2.length = w * h ∧ (∀ j, i ≤ j → s.1[j]? = x[j]?) ∧ ∀ j, i ≤ j → s.2[j]? = y[j]?
  have hI : ∀ i s, I i s → I (i + 1) (f i s) := by
    intro i s hs
    obtain ⟨p1, p2, p3, p4⟩ := hs
    refine ⟨by simp [f, p1], by simp [f, p2], fun j hj => ?_, fun j hj => ?_⟩
    · simp only [f]; rw [List.getElem?_set_ne (by omega)]; exact p3 j (by omega)
    · simp only [f]; rw [List.getElem?_set_ne (by omega)]; exact p4 j (by omega)
  have B := nest_fold (w := w) (h := h) (step0 := fun (s : (Int × (List (Option Nat)) × (List (Option Nat)))) => impl_halfStep_o.s0 w h b l m e s.1 s.2.1 s.2.2) (step1 := fun q (s : (Int × (List (Option Nat)) × (List (Option Nat)))) => impl_halfStep_o.s1 w h b l m e (q : Int) s.1 s.2.1 s.2.2)
    (fun s k => ((k : Int), s.1, s.2)) (fun s k => ((k : Int), s.1, s.2)) (fun s => ((h : Int), false, s.1, s.2)) (fun s => ((w : Int), false, s.1, s.2)) f I (fun cy hy cx hx s hs => by
      refine ⟨?_, hI _ s hs⟩
      obtain ⟨p1, p2, p3, p4⟩ := hs
      have hi := row_lt hx hy
      have i1 : cx + w * cy < x.length := by omega
      have i2 : cx + w * cy < y.length := by omega
      have i3 : cx + w * cy < e.length := by omega
      have q3 := p3 _ (Nat.le_refl (cx + w * cy))
      have q4 := p4 _ (Nat.le_refl (cx + w * cy))
      have d1 : (if b = true then some true else some (decide ((cy : Int) < IntKind.wrap .i64 ((h : Int) - 1)))) = some (b || decide (cy + 1 < h)) := by
        rw [wrap_small (by omega) (by omega)]
        cases b with
        | true => rfl
        | false => simp; omega
      have d2 : (if b = true then some true else some (decide ((cx : Int) < IntKind.wrap .i64 ((w : Int) - 1)))) = some (b || decide (cx + 1 < w)) := by
        rw [wrap_small (by omega) (by omega)]
        cases b with
        | true => rfl
        | false => simp; omega
      obtain ⟨a1, a2⟩ := at_cyc (u := (cx : Int) + 0) (v := (cy : Int) + 1) b l m (by omega) w2 (by omega) k2 ⟨by omega, by omega⟩ ⟨by omega, by omega⟩
      obtain ⟨b1, b2⟩ := at_cyc (u := (cx : Int) + 1) (v := (cy : Int) + 0) b l m (by omega) w2 (by omega) k2 ⟨by omega, by omega⟩ ⟨by omega, by omega⟩
      rw [cyc_self hx, Int.add_zero] at a1
      rw [cyc_self hx] at a2
      rw [cyc_self hy, Int.add_zero] at b1
      rw [cyc_self hy] at b2
      show impl_halfStep_o.s1 w h b l m e (cy : Int) (cx : Int) s.1 s.2 = _
      unfold impl_halfStep_o.s1
      rw [if_pos (by simp; omega), at_eq b l m w2 k2 hx hy, some_bind', d1, some_bind', d2]
      rw [wrap_small (n := (cx : Int) + 1) (by omega) (by omega), wrap_small (n := (cy : Int) + 1) (by omega) (by omega), a1, b1]
      simp only [some_bind', idx_nat, q3, q4, at0_eq i1, at0_eq i2, at0_eq i3, at0_eq (show cx + w * cyc h ((cy : Int) + 1) < e.length by omega), at0_eq (show cyc w ((cx : Int) + 1) + w * cy < e.length by omega), setF_nat (show cx + w * cy < s.1.length by omega), setF_nat (show cx + w * cy < s.2.length by omega)]
      have e1 : (if (b || decide (cy + 1 < h)) = true then some (s.1.set (cx + w * cy) (fop .sub .f32 (at0 x (cx + w * cy)) (fop .mul .f32 (some 1056964608) (fop .sub .f32 (at0 e (cx + w * cyc h ((cy : Int) + 1))) (at0 e (cx + w * cy)))))) else some s.1) = some (s.1.set (cx + w * cy) (vX (cx + w * cy))) := by
        simp only [vX, cell_mod hx, cell_div hx, hXv]
        split
        · rfl
        · rw [show at0 x (cx + w * cy) = x[cx + w * cy]?.getD none from rfl, set_same i1 q3]
      have e2 : (if (b || decide (cx + 1 < w)) = true then some (s.2.set (cx + w * cy) (fop .add .f32 (at0 y (cx + w * cy)) (fop .mul .f32 (some 1056964608) (fop .sub .f32 (at0 e (cyc w ((cx : Int) + 1) + w * cy)) (at0 e (cx + w * cy)))))) else some s.2) = some (s.2.set (cx + w * cy) (vY (cx + w * cy))) := by
        simp only [vY, cell_mod hx, cell_div hx, hYv]
        split
        · rfl
        · rw [show at0 y (cx + w * cy) = y[cx + w * cy]?.getD none from rfl, set_same i2 q4]
      rw [e1, some_bind', e2, some_bind']
      rfl) (fun cy hy s hs => by
      show impl_halfStep_o.s1 w h b l m e (cy : Int) (w : Int) s.1 s.2 = _
      unfold impl_halfStep_o.s1
      rw [if_neg (by simp)]
      simp) (fun cy hy s s' hs => by
      show impl_halfStep_o.s0 w h b l m e (cy : Int) s.1 s.2 = _
      unfold impl_halfStep_o.s0
      rw [if_pos (by simp; omega)]
      have hs' := hs
      simp only [Int.ofNat_zero] at hs'
      rw [hs']
      simp only [some_bind', one_more (show cy ≤ 1000000000 by omega)]) (fun s hs => by
      show impl_halfStep_o.s0 w h b l m e (h : Int) s.1 s.2 = _
      unfold impl_halfStep_o.s0
      rw [if_neg (by simp)]
      simp) (x, y) ⟨lx, ly, fun _ _ => rfl, fun _ _ => rfl⟩
  have pr : ∀ n (s : List (Option Nat) × List (Option Nat)), foldN f n s = (foldN (fun i s => s.set i (vX i)) n s.1, foldN (fun i s => s.set i (vY i)) n s.2) := by
    intro n s
    induction n with
    | zero => rfl
    | succ n ih => show f n (foldN f n s) = _; rw [ih]; rfl
  refine ⟨(foldN f (w * h) (x, y)).1, (foldN f (w * h) (x, y)).2, B.2.1, B.2.2.1, ?_, fun cx cy hx hy => ?_⟩
  · unfold impl_halfStep_o
    have := B.1
    simp only [Int.ofNat_zero] at this
    rw [this]; rfl
  · rw [pr]
    have hi := row_lt hx hy
    have c1 := (foldN_set vX x (w * h)).2 (cx + w * cy) (by omega)
    have c2 := (foldN_set vY y (w * h)).2 (cx + w * cy) (by omega)
    rw [if_pos hi] at c1 c2
    refine ⟨c1.trans ?_, c2.trans ?_⟩
    · simp only [vX, cell_mod hx, cell_div hx]
    · simp only [vY, cell_mod hx, cell_div hx]

theorem full_stepI (ll : l.length = w * h) (lm : m.length = w * h) : ∃ E X Y : List (Option Nat), E.length = w * h ∧ X.length = w * h ∧ Y.length = w * h ∧ impl_stepped w h b l m e x y = some (E, X, Y) ∧ ∀ cx cy, cx < w → cy < h → E[cx + w * cy]? = some (nEv w h b l m e X Y cx cy) ∧ X[cx + w * cy]? = some (hXv w h b e x cx cy) ∧ Y[cx + w * cy]? = some (hYv w h b e y cx cy) := by
  have hn := area_le w2 k2
  obtain ⟨X, Y, lX, lY, s2, hXY⟩ := half_stepI b l m e x y w1 w2 k1 k2 le lx ly
  let v := fun (i : Nat) => nEv w h b l m e X Y (i % w) (i / w)
  let f := fun (i : Nat) (s : List (Option Nat)) => s.set i (v i)
  let I := fun (i : Nat) (s : List (Option Nat)) => s.length = w * h ∧ ∀ j, i ≤ j → s[j]? = e[j]?
  have hI : ∀ i s, I i s → I (i + 1) (f i s) := by
    intro i s hs
    obtain ⟨p1, p3⟩ := hs
    refine ⟨by simp [f, p1], fun j hj => ?_⟩
    simp only [f]; rw [List.getElem?_set_ne (by omega)]; exact p3 j (by omega)
  have B := nest_fold (w := w) (h := h) (step0 := fun (s : (Int × (List (Option Nat)))) => impl_stepped.s0 w h b l m (e, X, Y) s.1 s.2) (step1 := fun q (s : (Int × (List (Option Nat)))) => impl_stepped.s1 w h b l m (e, X, Y) (q : Int) s.1 s.2)
    (fun s k => ((k : Int), s)) (fun s k => ((k : Int), s)) (fun s => ((h : Int), false, s)) (fun s => ((w : Int), false, s)) f I (fun cy hy cx hx s hs => by
      refine ⟨?_, hI _ s hs⟩
      obtain ⟨p1, p3⟩ := hs
      have hi := row_lt hx hy
      have q3 := p3 _ (Nat.le_refl (cx + w * cy))
      have i2 : cx + w * cy < e.length := by omega
      obtain ⟨a1, a2⟩ := at_cyc (u := (cx : Int) + 0) (v := (cy : Int) + -1) b l m (by omega) w2 (by omega) k2 ⟨by omega, by omega⟩ ⟨by omega, by omega⟩
      obtain ⟨b1, b2⟩ := at_cyc (u := (cx : Int) + -1) (v := (cy : Int) + 0) b l m (by omega) w2 (by omega) k2 ⟨by omega, by omega⟩ ⟨by omega, by omega⟩
      rw [cyc_self hx, Int.add_zero] at a1
      rw [cyc_self hx] at a2
      rw [cyc_self hy, Int.add_zero] at b1
      rw [cyc_self hy] at b2
      have m1 : (cx : Int) - 1 = (cx : Int) + -1 := rfl
      have m2 : (cy : Int) - 1 = (cy : Int) + -1 := rfl
      show impl_stepped.s1 w h b l m (e, X, Y) (cy : Int) (cx : Int) s = _
      unfold impl_stepped.s1 impl_newValue
      rw [if_pos (by simp; omega), border_eq, some_bind', at_eq b l m w2 k2 hx hy, wrap_small (n := (cx : Int) - 1) (by omega) (by omega), wrap_small (n := (cy : Int) - 1) (by omega) (by omega), m1, m2, a1, b1]
      simp only [some_bind', idx_nat, q3, at0_eq i2, at0_eq (show cx + w * cy < X.length by omega), at0_eq (show cx + w * cy < Y.length by omega), at0_eq (show cx + w * cy < l.length by omega), at0_eq (show cx + w * cy < m.length by omega), at0_eq (show cx + w * cyc h ((cy : Int) + -1) < X.length by omega), at0_eq (show cyc w ((cx : Int) + -1) + w * cy < Y.length by omega), setF_nat (show cx + w * cy < s.length by omega), one_more (show cx ≤ 1000000000 by omega)]
      have e1 : ∀ z : Option Nat, (if (!(rim w h b cx cy)) = true then some (s.set (cx + w * cy) z) else some s) = some (s.set (cx + w * cy) (if rim w h b cx cy = true then at0 e (cx + w * cy) else z)) := by
        intro z
        cases rim w h b cx cy with
        | true => simp only [Bool.not_true, Bool.false_eq_true, if_false, if_true]; rw [show at0 e (cx + w * cy) = e[cx + w * cy]?.getD none from rfl, set_same i2 q3]
        | false => rfl
      have e2 := e1 (fop .add .f32 (fop .mul .f32 (at0 e (cx + w * cy)) (fop .sub .f32 (some 1065353216) (at0 m (cx + w * cy)))) (fop .mul .f32 (at0 l (cx + w * cy)) (fop .sub .f32 (fop .sub .f32 (at0 Y (cx + w * cy)) (at0 Y (cyc w ((cx : Int) + -1) + w * cy))) (fop .sub .f32 (at0 X (cx + w * cy)) (at0 X (cx + w * cyc h ((cy : Int) + -1)))))))
      unfold rim at e2
      rw [e2, some_bind']
      simp only [f, v, cell_mod hx, cell_div hx, nEv, rim]) (fun cy hy s hs => by
      show impl_stepped.s1 w h b l m (e, X, Y) (cy : Int) (w : Int) s = _
      unfold impl_stepped.s1
      rw [if_neg (by simp)]
      simp) (fun cy hy s s' hs => by
      show impl_stepped.s0 w h b l m (e, X, Y) (cy : Int) s = _
      unfold impl_stepped.s0
      rw [if_pos (by simp; omega)]
      have hs' := hs
      simp only [Int.ofNat_zero] at hs'
      rw [hs']
      simp only [some_bind', one_more (show cy ≤ 1000000000 by omega)]) (fun s hs => by
      show impl_stepped.s0 w h b l m (e, X, Y) (h : Int) s = _
      unfold impl_stepped.s0
      rw [if_neg (by simp)]
      simp) e ⟨le, fun _ _ => rfl⟩
  refine ⟨foldN f (w * h) e, X, Y, B.2.1, lX, lY, ?_, fun cx cy hx hy => ⟨?_, hXY cx cy hx hy⟩⟩
  · unfold impl_stepped
    rw [(ownF_eq (show e.length ≤ 1000000000 by omega) (show x.length ≤ 1000000000 by omega) (show y.length ≤ 1000000000 by omega)).2, some_bind']
    simp only
    rw [s2, some_bind']
    have := B.1
    simp only [Int.ofNat_zero] at this
    rw [this]; rfl
  · have hi := row_lt hx hy
    have c1 := (foldN_set v e (w * h)).2 (cx + w * cy) (by omega)
    rw [if_pos hi] at c1
    refine c1.trans ?_
    simp only [v, cell_mod hx, cell_div hx]
end
end Go.H
