/- A field of one mode: the plain law. -/
import Derived.Test.YthccgmjanoeohaaGModeField
import Derived.Test.YthccgmjanoeohaaPCells
set_option linter.unusedVariables false
namespace Go.H
open Go Ieee

theorem share_of (a b : Int) : ∃ r, spec_l08Share a b = some r ∧ impl_SineTurns (fop .quo .f32 (fofi .f32 a) (fofi .f32 b)) = some r := by
  unfold spec_l08Share
  rw [sine_eq]
  obtain ⟨r, hr⟩ := sine_some (fop .quo .f32 (fofi .f32 a) (fofi .f32 b))
  exact ⟨r, by rw [hr]; rfl, hr⟩

noncomputable def shareV (a b : Int) : Option Nat := (spec_l08Share a b).getD none
theorem shareV_eq (a b : Int) : spec_l08Share a b = some (shareV a b) ∧ impl_SineTurns (fop .quo .f32 (fofi .f32 a) (fofi .f32 b)) = some (shareV a b) := by
  obtain ⟨r, h1, h2⟩ := share_of a b
  unfold shareV
  rw [h1, h2]
  exact ⟨rfl, rfl⟩

noncomputable def modeV (w h : Nat) (m n : Int) (z : Option Nat) (x y : Nat) : Option Nat :=
  fop .mul .f32 (fop .mul .f32 z (shareV (IntKind.wrap .i64 (m * (x : Int))) (IntKind.wrap .i64 (2 * (IntKind.wrap .i64 ((w : Int) - 1)))))) (shareV (IntKind.wrap .i64 (n * (y : Int))) (IntKind.wrap .i64 (2 * (IntKind.wrap .i64 ((h : Int) - 1)))))

noncomputable def modeCell (w h : Nat) (m n : Int) (z : Option Nat) (i : Nat) (s : List (Option Nat)) : List (Option Nat) :=
  if i % w = 0 ∨ i % w = w - 1 ∨ i / w = 0 ∨ i / w = h - 1 then s else s.set i (modeV w h m n z (i % w) (i / w))

theorem modeCell_len (w h : Nat) (m n : Int) (z : Option Nat) (i : Nat) (s : List (Option Nat)) : (modeCell w h m n z i s).length = s.length := by
  unfold modeCell; split <;> simp

theorem foldN_id {S : Type} {g : Nat → S → S} (s : S) (n : Nat) (hg : ∀ k t, k < n → g k t = t) : foldN g n s = s := by
  induction n with
  | zero => rfl
  | succ n ih => show g n (foldN g n s) = s; rw [ih fun k t hk => hg k t (by omega), hg n s (by omega)]

theorem mode_inner (u v : Nat) (m n : Int) (z : Option Nat) (s : List (Option Nat)) :
    foldN (modeCell (u + 2) (v + 2) m n z) ((u + 2) * (v + 2)) s = foldN (fun k t => foldN (fun j => modeCell (u + 2) (v + 2) m n z (j + 1 + (u + 2) * (k + 1))) u t) v s := by
  rw [← foldN_rows (modeCell (u + 2) (v + 2) m n z) (u + 2) s (v + 2)]
  rw [foldN_rim (fun y t => foldN (fun x => modeCell (u + 2) (v + 2) m n z (x + (u + 2) * y)) (u + 2) t) v (fun t => foldN_id t _ fun k t hk => by
    unfold modeCell; rw [if_pos (.inr (.inr (.inl (cell_div hk))))]) (fun t => foldN_id t _ fun k t hk => by
    unfold modeCell; rw [if_pos (.inr (.inr (.inr (by rw [cell_div hk]; rfl))))])]
  refine foldN_congr _ _ fun y t hy => ?_
  exact foldN_rim (fun x => modeCell (u + 2) (v + 2) m n z (x + (u + 2) * (y + 1))) u (fun t => by
    unfold modeCell; rw [if_pos (.inl (cell_mod (by omega)))]) (fun t => by
    unfold modeCell; rw [if_pos (.inr (.inl (by rw [cell_mod (by omega)]; rfl)))]) t

theorem border_eq {w h x y : Nat} (l m : List (Option Nat)) (hw0 : 3 ≤ w) (hh0 : 3 ≤ h) (hw : w ≤ 16) (hh : h ≤ 16) : impl_Sheet_isBorder w h false l m x y = some (decide (x = 0 ∨ x = w - 1 ∨ y = 0 ∨ y = h - 1)) := by
  unfold impl_Sheet_isBorder
  rw [wrap_small (n := (w : Int) - 1) (by omega) (by omega), wrap_small (n := (h : Int) - 1) (by omega) (by omega)]
  simp only [ite_orB, some_bind', Bool.not_false, if_true]
  congr 1
  rw [Bool.eq_iff_iff]
  simp only [Bool.or_eq_true, beq_iff_eq, decide_eq_true_eq]
  omega

theorem zero_eq {w h : Nat} (b : Bool) (l m : List (Option Nat)) (hw : w ≤ 16) (hh : h ≤ 16) : spec_l02Zero (IntKind.wrap .i64 ((w : Int) * (h : Int))) = some (List.replicate (w * h) (some 0), List.replicate (w * h) (some 0), List.replicate (w * h) (some 0)) ∧ impl_zeroField w h b l m = some (List.replicate (w * h) (some 0), List.replicate (w * h) (some 0), List.replicate (w * h) (some 0)) := by
  have hn := area_le hw hh
  unfold spec_l02Zero impl_zeroField
  rw [area_eq hw hh]
  have c : 0 ≤ ((w * h : Nat) : Int) ∧ ((w * h : Nat) : Int) ≤ 1000000000 := ⟨by omega, by omega⟩
  simp only [if_pos c, Int.toNat_natCast, and_self]

theorem mode_eq (a0 a1 : Int) (a2 : Bool) (a3 a4 : List (Option Nat)) (m n : Int) (z : Option Nat) (h3 : a3.length ≤ 1000000000) (h4 : a4.length ≤ 1000000000) : ∃ r : List (Option Nat) × List (Option Nat) × List (Option Nat) × Bool, r.1.length ≤ 256 ∧ r.2.1.length ≤ 256 ∧ r.2.2.1.length ≤ 256 ∧ spec_ModeField a0 a1 a2 a3 a4 m n z = some r ∧ impl_ModeField a0 a1 a2 a3 a4 m n z = some r := by
  unfold spec_ModeField impl_ModeField impl_isMode spec_l08Order impl_isOrder spec_l01Finite impl_IsFinite
  obtain ⟨v, e1, e2⟩ := is_eq a0 a1 a2 a3 a4 h3 h4
  rw [e1, e2]
  simp only [(in_eq _ _ _).1, (in_eq _ _ _).2, some_bind', ite_orB, ite_andB]
  generalize (decide (m ≥ 1) && decide (m ≤ 8)) = c1
  generalize (decide (n ≥ 1) && decide (n ≤ 8)) = c2
  generalize fcmp .eql .f32 (fop .sub .f32 z z) (some 0) = c3
  cases v with
  | false => exact ⟨([], [], [], false), by simp, by simp, by simp, by simp, by simp⟩
  | true =>
    cases a2 with
    | true => exact ⟨([], [], [], false), by simp, by simp, by simp, by simp, by simp⟩
    | false =>
      cases c1 with
      | false => exact ⟨([], [], [], false), by simp, by simp, by simp, by simp, by simp⟩
      | true =>
        cases c2 with
        | false => exact ⟨([], [], [], false), by simp, by simp, by simp, by simp, by simp⟩
        | true =>
          cases c3 with
          | false => exact ⟨([], [], [], false), by simp, by simp, by simp, by simp, by simp⟩
          | true =>
            obtain ⟨w, h, rfl, rfl, w1, w2, k1, k2, l3, l4⟩ := valid_has e2
            have hn := area_le w2 k2
            have lz : (List.replicate (w * h) (some 0 : Option Nat)).length = w * h := by simp
            have hf : ∀ i s, s.length = w * h → (modeCell w h m n z i s).length = w * h := by
              intro i s hs; rw [modeCell_len]; exact hs
            have B := each_fold (C := Int × Int × Bool × (Option Nat) × Int × Int × (List (Option Nat)) × (List (Option Nat)) × (List (Option Nat))) false a3 a4 w2 k2
              (step1 := fun yy (s : (Int × Int × Int × Bool × (Option Nat) × Int × Int × (List (Option Nat)) × (List (Option Nat)) × (List (Option Nat)))) => impl_Sheet_each__impl_modeField_1.s1 w h false a3 a4 a3 a4 yy s.1 s.2.1 s.2.2.1 s.2.2.2.1 s.2.2.2.2.1 s.2.2.2.2.2.1 s.2.2.2.2.2.2.1 s.2.2.2.2.2.2.2.1 s.2.2.2.2.2.2.2.2.1 s.2.2.2.2.2.2.2.2.2)
              (step0 := fun (s : (Int × Int × Int × Bool × (Option Nat) × Int × Int × (List (Option Nat)) × (List (Option Nat)) × (List (Option Nat)))) => impl_Sheet_each__impl_modeField_1.s0 w h false a3 a4 a3 a4 s.1 s.2.1 s.2.2.1 s.2.2.2.1 s.2.2.2.2.1 s.2.2.2.2.2.1 s.2.2.2.2.2.2.1 s.2.2.2.2.2.2.2.1 s.2.2.2.2.2.2.2.2.1 s.2.2.2.2.2.2.2.2.2)
              (fun xx yy i c => impl_modeField_1_2 xx yy i c.1 c.2.1 c.2.2.1 a3 a4 c.2.2.2.1 c.2.2.2.2.1 c.2.2.2.2.2.1 c.2.2.2.2.2.2.1 c.2.2.2.2.2.2.2.1 c.2.2.2.2.2.2.2.2) (fun _ _ _ => rfl) (fun _ _ => rfl)
              (fun s => ((w : Int), (h : Int), false, z, m, n, s, List.replicate (w * h) (some 0), List.replicate (w * h) (some 0))) (modeCell w h m n z) (fun _ s => s.length = w * h) (fun xx yy hx hy s hI => by
                refine ⟨?_, hf _ s hI⟩
                have hlt := row_lt hx hy
                have hks : xx + w * yy < s.length := by omega
                show impl_modeField_1_2 xx yy ((xx + w * yy : Nat) : Int) w h false a3 a4 z m n s (List.replicate (w * h) (some 0)) (List.replicate (w * h) (some 0)) = _
                unfold impl_modeField_1_2 impl_quotient
                rw [border_eq a3 a4 w1 k1 w2 k2, some_bind']
                simp only [(shareV_eq _ _).2, some_bind', idx_nat, List.getElem?_eq_getElem hks, setF_nat hks]
                unfold modeCell modeV
                rw [cell_mod hx, cell_div hx]
                by_cases hb : xx = 0 ∨ xx = w - 1 ∨ yy = 0 ∨ yy = h - 1
                · rw [if_pos hb, decide_eq_true hb]; rfl
                · rw [if_neg hb, decide_eq_false hb]; rfl) (List.replicate (w * h) (some 0)) lz
            have hlen : (foldN (modeCell w h m n z) (w * h) (List.replicate (w * h) (some 0))).length = w * h := B.2
            refine ⟨(foldN (modeCell w h m n z) (w * h) (List.replicate (w * h) (some 0)), List.replicate (w * h) (some 0), List.replicate (w * h) (some 0), true), by simp only; omega, by simp only; rw [lz]; exact hn, by simp only; rw [lz]; exact hn, ?_, ?_⟩
            · obtain ⟨u, rfl⟩ : ∃ u, w = u + 2 := ⟨w - 2, by omega⟩
              obtain ⟨v, rfl⟩ : ∃ v, h = v + 2 := ⟨h - 2, by omega⟩
              have I1 : ∀ k, k < v → ∀ s, s.length = (u + 2) * (v + 2) → loopF (fun (s : (Int × (List (Option Nat)))) => spec_l08Mode.s1 ((u + 2 : Nat) : Int) ((v + 2 : Nat) : Int) m n z ((k + 1 : Nat) : Int) s.1 s.2) (1, s) = some (((u + 1 : Nat) : Int), false, foldN (fun j => modeCell (u + 2) (v + 2) m n z (j + 1 + (u + 2) * (k + 1))) u s) ∧ (foldN (fun j => modeCell (u + 2) (v + 2) m n z (j + 1 + (u + 2) * (k + 1))) u s).length = (u + 2) * (v + 2) := by
                intro k hk s hs
                exact loop_fold (step := fun (s : (Int × (List (Option Nat)))) => spec_l08Mode.s1 ((u + 2 : Nat) : Int) ((v + 2 : Nat) : Int) m n z ((k + 1 : Nat) : Int) s.1 s.2) (fun s j => (((j + 1 : Nat) : Int), s)) (fun j => modeCell (u + 2) (v + 2) m n z (j + 1 + (u + 2) * (k + 1))) (fun _ s => s.length = (u + 2) * (v + 2)) u (fun s => (((u + 1 : Nat) : Int), false, s)) s hs (fun j s hj hI => by
                  refine ⟨?_, hf _ s hI⟩
                  show spec_l08Mode.s1 ((u + 2 : Nat) : Int) ((v + 2 : Nat) : Int) m n z ((k + 1 : Nat) : Int) ((j + 1 : Nat) : Int) s = _
                  have hx : j + 1 < u + 2 := by omega
                  have hy : k + 1 < v + 2 := by omega
                  have hlt := row_lt hx hy
                  have hks : j + 1 + (u + 2) * (k + 1) < s.length := by omega
                  unfold spec_l08Mode.s1
                  rw [if_pos (by rw [wrap_small (n := ((u + 2 : Nat) : Int) - 1) (by omega) (by omega)]; simp; omega)]
                  simp only [(shareV_eq _ _).1, some_bind', place_eq w2 k2 hx hy, idx_nat, List.getElem?_eq_getElem hks, setF_nat hks, one_more (show j + 1 ≤ 1000000000 by omega)]
                  unfold modeCell modeV
                  rw [cell_mod hx, cell_div hx, if_neg (by omega)]) (fun s hI => by
                  show spec_l08Mode.s1 ((u + 2 : Nat) : Int) ((v + 2 : Nat) : Int) m n z ((k + 1 : Nat) : Int) ((u + 1 : Nat) : Int) s = _
                  unfold spec_l08Mode.s1
                  rw [wrap_small (n := ((u + 2 : Nat) : Int) - 1) (by omega) (by omega), if_neg (by simp; omega)]
                  congr 3
                  simp; omega)
              have A := loop_fold (step := fun (s : (Int × (List (Option Nat)))) => spec_l08Mode.s0 ((u + 2 : Nat) : Int) ((v + 2 : Nat) : Int) m n z s.1 s.2) (fun s k => (((k + 1 : Nat) : Int), s)) (fun k t => foldN (fun j => modeCell (u + 2) (v + 2) m n z (j + 1 + (u + 2) * (k + 1))) u t) (fun _ s => s.length = (u + 2) * (v + 2)) v (fun s => (((v + 1 : Nat) : Int), false, s)) (List.replicate ((u + 2) * (v + 2)) (some 0)) lz (fun k s hk hI => by
                obtain ⟨j1, j2⟩ := I1 k hk s hI
                refine ⟨?_, j2⟩
                show spec_l08Mode.s0 ((u + 2 : Nat) : Int) ((v + 2 : Nat) : Int) m n z ((k + 1 : Nat) : Int) s = _
                unfold spec_l08Mode.s0
                rw [if_pos (by rw [wrap_small (n := ((v + 2 : Nat) : Int) - 1) (by omega) (by omega)]; simp; omega), j1]
                simp only [some_bind', one_more (show k + 1 ≤ 1000000000 by omega)]) (fun s hI => by
                show spec_l08Mode.s0 ((u + 2 : Nat) : Int) ((v + 2 : Nat) : Int) m n z ((v + 1 : Nat) : Int) s = _
                unfold spec_l08Mode.s0
                rw [wrap_small (n := ((v + 2 : Nat) : Int) - 1) (by omega) (by omega), if_neg (by simp; omega)]
                congr 3
                simp; omega)
              have A1 := A.1
              rw [← mode_inner] at A1
              unfold spec_l08Mode
              rw [(zero_eq false a3 a4 w2 k2).1]
              simp only [Bool.not_true, Bool.or_self, Bool.false_eq_true, if_false, Bool.and_self, some_bind']
              have e0 : ((0 + 1 : Nat) : Int) = 1 := rfl
              rw [e0] at A1
              rw [A1]
              rfl
            · unfold impl_modeField impl_Sheet_each__impl_modeField_1
              rw [(zero_eq false a3 a4 w2 k2).2]
              simp only [Bool.not_true, Bool.or_self, Bool.false_eq_true, if_false, Bool.not_false, Bool.and_self, some_bind']
              have := B.1
              rw [this]
              rfl

theorem laws_FnExactModeField_true (a0 a1 : Int) (a2 : Bool) (a3 a4 : List (Option Nat)) (m n : Int) (z : Option Nat) (h3 : a3.length ≤ 9223372036854775807) (h4 : a4.length ≤ 9223372036854775807) : laws_FnExactModeField a0 a1 a2 a3 a4 m n z = some true := by
  unfold laws_FnExactModeField
  rcases szSheet_cases a0 a1 a2 a3 a4 1048576 (by omega) (by omega) h3 h4 with h | ⟨h, hl⟩
  · rw [h]; rfl
  · rw [h, some_bind', if_neg (by simp; omega)]
    obtain ⟨⟨r1, r2, r3, b⟩, q1, q2, q3, e1, e2⟩ := mode_eq a0 a1 a2 a3 a4 m n z (by omega) (by omega)
    simp only at q1 q2 q3
    simp only [toSheet_eq a0 a1 a2 a3 a4 (by omega) (by omega), e1, e2, some_bind', eqField_self r1 r2 r3 (by omega) (by omega) (by omega), eqSheet_self a0 a1 a2 a3 a4 (by omega) (by omega), bne_self_eq_false, Bool.not_true, Bool.false_eq_true, if_false,
      markSheet_eq a0 a1 a2 a3 a4 1 (by omega) (by omega), markField_eq r1 r2 r3 1 (by omega) (by omega), heldField_eq 1 r1.length r2.length r3.length (by omega) (by omega), not_neg (show 0 ≤ 1 + (a3.length : Int) + (a4.length : Int) by omega), not_neg (show 0 ≤ 1 + (r1.length : Int) + (r2.length : Int) + (r3.length : Int) by omega)]
end Go.H
