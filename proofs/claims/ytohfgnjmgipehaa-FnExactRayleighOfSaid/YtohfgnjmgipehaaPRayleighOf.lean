/- Rayleigh numbers: the plain law. -/
import Derived.Test.YtohfgnjmgipehaaGRayleighOf
import Derived.Test.YtohfgnjmgipehaaPGrid
import Derived.Test.YtohfgnjmgipehaaPCyc
import Derived.Test.YtohfgnjmgipehaaPField2
import Derived.Test.YtohfgnjmgipehaaFR2
set_option linter.unusedVariables false
namespace Go.H
open Go Ieee

theorem fold_rounds {S : Type} (f : Nat → S → S) (s : S) : ∀ n, foldN f n s = roundsN f n s
  | 0 => rfl
  | n + 1 => by show f n (foldN f n s) = f n (roundsN f n s); rw [fold_rounds f s n]

/-- a loop that stops at the first place of a kind -/
theorem loop_first {St E S : Type} {step : St → Option (St ⊕ E)} (P : S → Nat → St) (bad : Nat → Bool) (f : Nat → S → S) (n : Nat) (R : Nat → E) (e : S → E) (s0 : S)
    (hs : ∀ k s, k < n → step (P s k) = some (if bad k = true then .inr (R k) else .inl (P (f k s) (k + 1)))) (he : ∀ s, step (P s n) = some (.inr (e s))) :
    ((∀ k, k < n → bad k = false) ∧ loopF step (P s0 0) = some (e (foldN f n s0))) ∨ ∃ k, k < n ∧ bad k = true ∧ loopF step (P s0 0) = some (R k) := by
  have key : ∀ m, m ≤ n → ((∀ k, k < m → bad k = false) ∧ loopF step (P s0 0) = loopF step (P (foldN f m s0) m)) ∨ ∃ k, k < n ∧ bad k = true ∧ loopF step (P s0 0) = some (R k) := by
    intro m
    induction m with
    | zero => intro _; exact .inl ⟨fun k hk => absurd hk (by omega), rfl⟩
    | succ m ih =>
      intro hm
      rcases ih (by omega) with ⟨h1, h2⟩ | h
      · have h3 := hs m (foldN f m s0) (by omega)
        cases hb : bad m with
        | true =>
          rw [hb, if_pos rfl] at h3
          exact .inr ⟨m, by omega, hb, h2.trans (loopF_stop h3)⟩
        | false =>
          rw [hb, if_neg (by simp)] at h3
          refine .inl ⟨fun k hk => ?_, h2.trans (loopF_next h3)⟩
          by_cases h : k = m
          · subst h; exact hb
          · exact h1 k (by omega)
      · exact .inr h
  rcases key n (Nat.le_refl _) with ⟨h1, h2⟩ | h
  · exact .inl ⟨h1, h2.trans (loopF_stop (he _))⟩
  · exact .inr h

def at0 (l : List (Option Nat)) (i : Nat) : Option Nat := l[i]?.getD none
theorem at0_eq {l : List (Option Nat)} {i : Nat} (h : i < l.length) : l[i]? = some (at0 l i) := by
  unfold at0; rw [List.getElem?_eq_getElem h]; rfl

theorem contains_eq (l : List (Option Nat)) (hl : l.length ≤ 1000000000) : ∃ c, slices_ContainsFunc_float32_float32__impl_RayleighOf_1 l = some c ∧ (c = false → ∀ i, i < l.length → fcmp .gtr .f32 (at0 l i) (some 0) = true) ∧ (c = true → ∃ i, i < l.length ∧ fcmp .gtr .f32 (at0 l i) (some 0) = false) := by
  unfold slices_ContainsFunc_float32_float32__impl_RayleighOf_1 slices_IndexFunc_float32_float32__impl_RayleighOf_1
  have A := loop_first (S := Unit) (step := fun (s : (Int × Int)) => slices_IndexFunc_float32_float32__impl_RayleighOf_1.s0 l s.1 s.2) (fun _ k => ((0 : Int), (k : Int))) (fun k => !(fcmp .gtr .f32 (at0 l k) (some 0))) (fun _ u => u) l.length (fun k => .inr (k : Int)) (fun _ => .inl ((0 : Int), (l.length : Int), false)) () (fun k u hk => by
    show slices_IndexFunc_float32_float32__impl_RayleighOf_1.s0 l 0 (k : Int) = _
    unfold slices_IndexFunc_float32_float32__impl_RayleighOf_1.s0 impl_RayleighOf_1
    rw [if_pos (by simp; omega), idx_nat, at0_eq hk]
    simp only [some_bind', ite_some, one_more (show k ≤ 1000000000 by omega)]) (fun u => by
    show slices_IndexFunc_float32_float32__impl_RayleighOf_1.s0 l 0 (l.length : Int) = _
    unfold slices_IndexFunc_float32_float32__impl_RayleighOf_1.s0
    rw [if_neg (by simp)]
    simp)
  simp only [Int.ofNat_zero] at A
  rcases A with ⟨h1, h2⟩ | ⟨k, hk, h1, h2⟩
  · rw [h2]
    refine ⟨false, rfl, fun _ i hi => by simpa using h1 i hi, fun h => absurd h (by decide)⟩
  · rw [h2]
    refine ⟨true, ?_, fun h => absurd h (by decide), fun _ => ⟨k, hk, by simpa using h1⟩⟩
    simp

theorem okTo_pos {c : Nat} {v : Option Nat} (h : okTo c v = true) : fcmp .eql .f32 v (some 0) = !fcmp .gtr .f32 v (some 0) := by
  unfold okTo at h
  rw [Bool.and_eq_true] at h
  have h1 : (ford .f32 v (some 0) == some .gt || ford .f32 v (some 0) == some .eq) = true := h.1
  show (ford .f32 v (some 0) == some .eq) = !(ford .f32 v (some 0) == some .gt)
  cases ho : ford .f32 v (some 0) with
  | none => rw [ho] at h1; cases h1
  | some o => cases o with
    | lt => rw [ho] at h1; cases h1
    | eq => rfl
    | gt => rfl

theorem valid_speeds {a0 a1 : Int} {b : Bool} {l m : List (Option Nat)} (hl : l.length ≤ 1000000000) (h : impl_ValidSheet a0 a1 b l m = some true) : ∀ i, i < l.length → okTo 1056964608 (at0 l i) = true := by
  unfold impl_ValidSheet impl_within at h
  simp only [ite_some, some_bind'] at h
  rw [between_eq l _ hl] at h
  have ha : l.all (okTo 1056964608) = true := by
    cases hc : l.all (okTo 1056964608) with
    | true => rfl
    | false =>
      rw [hc] at h
      simp only [some_bind', Bool.false_eq_true, if_false, ite_self] at h
      cases h
  intro i hi
  rw [List.all_eq_true] at ha
  exact ha _ (by unfold at0; rw [List.getElem?_eq_getElem hi]; exact List.getElem_mem hi)

noncomputable def dsq (e : List (Option Nat)) (j i : Nat) : Option Nat := fop .mul .f64 (fop .sub .f64 (wid (at0 e j)) (wid (at0 e i))) (fop .sub .f64 (wid (at0 e j)) (wid (at0 e i)))
noncomputable def upF (w h : Nat) (b : Bool) (e : List (Option Nat)) (i : Nat) (s : Option Nat) : Option Nat :=
  if (b || decide (i / w + 1 < h)) = true then fop .add .f64 s (dsq e (i % w + w * cyc h (((i / w : Nat) : Int) + 1)) i) else s
noncomputable def rtF (w h : Nat) (b : Bool) (e : List (Option Nat)) (i : Nat) (s : Option Nat) : Option Nat :=
  if (b || decide (i % w + 1 < w)) = true then fop .add .f64 s (dsq e (cyc w (((i % w : Nat) : Int) + 1) + w * (i / w)) i) else s
noncomputable def lowF (l e : List (Option Nat)) (i : Nat) (s : Option Nat) : Option Nat := fop .add .f64 s (fop .quo .f64 (fop .mul .f64 (wid (at0 e i)) (wid (at0 e i))) (wid (at0 l i)))

theorem cyc_mod {w c : Nat} (hw : w ≤ 16) (hc : c < w) : Int.tmod (IntKind.wrap .i64 ((c : Int) + 1)) (w : Int) = ((cyc w ((c : Int) + 1) : Nat) : Int) := by
  rw [one_more (by omega), tmod_nat, cyc_up hc]
  by_cases h : c + 1 = w
  · rw [if_pos h, h, Nat.mod_self]
  · rw [if_neg h, Nat.mod_eq_of_lt (by omega)]
theorem cyc_stay {w c : Nat} (hw : w ≤ 16) (hc : c < w) : Int.tmod (IntKind.wrap .i64 ((c : Int) + 0)) (w : Int) = (c : Int) := by
  rw [Int.add_zero, wrap_small (by omega) (by omega), tmod_nat, Nat.mod_eq_of_lt hc]
theorem cyc_lt {w c : Nat} (hc : c < w) : cyc w ((c : Int) + 1) < w := by
  rw [cyc_up hc]; split <;> omega

section
variable {w h : Nat} (b : Bool) (l m e x y : List (Option Nat)) (w1 : 3 ≤ w) (w2 : w ≤ 16) (k1 : 3 ≤ h) (k2 : h ≤ 16) (le : e.length = w * h)
include w1 w2 k1 k2 le

theorem jumps_up (z : Option Nat) : spec_l08Jumps w h b l m e x y z 0 1 = some (foldN (upF w h b e) (w * h) z) := by
  have hn := area_le w2 k2
  unfold spec_l08Jumps
  have A := nest_fold (w := w) (h := h) (step0 := fun (s : ((Option Nat) × Int)) => spec_l08Jumps.s0 w h b e 0 1 s.1 s.2) (step1 := fun q (s : ((Option Nat) × Int)) => spec_l08Jumps.s1 w h b e 0 1 (q : Int) s.1 s.2)
    (fun s k => (s, (k : Int))) (fun s k => (s, (k : Int))) (fun s => (s, (h : Int), false)) (fun s => (s, (w : Int), false)) (upF w h b e) (fun _ _ => True) (fun cy hy cx hx s _ => by
      refine ⟨?_, trivial⟩
      have hi := row_lt hx hy
      have hj := row_lt hx (cyc_lt hy)
      show spec_l08Jumps.s1 w h b e 0 1 (cy : Int) s (cx : Int) = _
      unfold spec_l08Jumps.s1
      have c : (if (!b) = true then (if ((IntKind.wrap .i64 ((cx : Int) + 0)) == (w : Int)) = true then some true else some ((IntKind.wrap .i64 ((cy : Int) + 1)) == (h : Int))) else some false) = some (!(b || decide (cy + 1 < h))) := by
        rw [wrap_small (by omega) (by omega), wrap_small (by omega) (by omega)]
        cases b with
        | true => rfl
        | false =>
          have q1 : ((cx : Int) + 0 == (w : Int)) = false := by rw [beq_eq_false_iff_ne]; omega
          rw [q1]
          simp only [Bool.not_false, if_true, Bool.false_eq_true, if_false, Bool.false_or]
          congr 1
          rw [Bool.eq_iff_iff]
          simp
          omega
      have n1 : ¬ ((w : Int) = 0) := by omega
      have n2 : ¬ ((h : Int) = 0) := by omega
      rw [if_pos (by simp; omega), c, some_bind', if_neg n1, if_neg n2, cyc_stay w2 hx, cyc_mod k2 hy, place_eq w2 k2 hx (cyc_lt hy), place_eq w2 k2 hx hy, one_more (by omega)]
      simp only [idx_nat, at0_eq (show cx + w * cyc h ((cy : Int) + 1) < e.length by omega), at0_eq (show cx + w * cy < e.length by omega), some_bind']
      unfold upF dsq
      rw [cell_mod hx, cell_div hx]
      cases (b || decide (cy + 1 < h)) <;> rfl) (fun cy hy s _ => by
      show spec_l08Jumps.s1 w h b e 0 1 (cy : Int) s (w : Int) = _
      unfold spec_l08Jumps.s1
      rw [if_neg (by simp)]
      simp) (fun cy hy s s' hs => by
      show spec_l08Jumps.s0 w h b e 0 1 s (cy : Int) = _
      unfold spec_l08Jumps.s0
      rw [if_pos (by simp; omega)]
      have hs' := hs
      simp only [Int.ofNat_zero] at hs'
      rw [hs']
      simp only [some_bind', one_more (show cy ≤ 1000000000 by omega)]) (fun s _ => by
      show spec_l08Jumps.s0 w h b e 0 1 s (h : Int) = _
      unfold spec_l08Jumps.s0
      rw [if_neg (by simp)]
      simp) z trivial
  have := A.1
  simp only [Int.ofNat_zero] at this
  rw [this]; rfl

theorem jumps_rt (z : Option Nat) : spec_l08Jumps w h b l m e x y z 1 0 = some (foldN (rtF w h b e) (w * h) z) := by
  have hn := area_le w2 k2
  unfold spec_l08Jumps
  have A := nest_fold (w := w) (h := h) (step0 := fun (s : ((Option Nat) × Int)) => spec_l08Jumps.s0 w h b e 1 0 s.1 s.2) (step1 := fun q (s : ((Option Nat) × Int)) => spec_l08Jumps.s1 w h b e 1 0 (q : Int) s.1 s.2)
    (fun s k => (s, (k : Int))) (fun s k => (s, (k : Int))) (fun s => (s, (h : Int), false)) (fun s => (s, (w : Int), false)) (rtF w h b e) (fun _ _ => True) (fun cy hy cx hx s _ => by
      refine ⟨?_, trivial⟩
      have hi := row_lt hx hy
      have hj := row_lt (cyc_lt hx) hy
      show spec_l08Jumps.s1 w h b e 1 0 (cy : Int) s (cx : Int) = _
      unfold spec_l08Jumps.s1
      have c : (if (!b) = true then (if ((IntKind.wrap .i64 ((cx : Int) + 1)) == (w : Int)) = true then some true else some ((IntKind.wrap .i64 ((cy : Int) + 0)) == (h : Int))) else some false) = some (!(b || decide (cx + 1 < w))) := by
        rw [wrap_small (by omega) (by omega), wrap_small (by omega) (by omega)]
        cases b with
        | true => rfl
        | false =>
          have q1 : ((cy : Int) + 0 == (h : Int)) = false := by rw [beq_eq_false_iff_ne]; omega
          rw [q1]
          simp only [Bool.not_false, if_true, Bool.false_or]
          by_cases hc : cx + 1 = w
          · rw [if_pos (by rw [beq_iff_eq]; omega), decide_eq_false (by omega)]; rfl
          · rw [if_neg (by rw [beq_iff_eq]; omega), decide_eq_true (by omega)]; rfl
      have n1 : ¬ ((w : Int) = 0) := by omega
      have n2 : ¬ ((h : Int) = 0) := by omega
      rw [if_pos (by simp; omega), c, some_bind', if_neg n1, if_neg n2, cyc_mod w2 hx, cyc_stay k2 hy, place_eq w2 k2 (cyc_lt hx) hy, place_eq w2 k2 hx hy, one_more (by omega)]
      simp only [idx_nat, at0_eq (show cyc w ((cx : Int) + 1) + w * cy < e.length by omega), at0_eq (show cx + w * cy < e.length by omega), some_bind']
      unfold rtF dsq
      rw [cell_mod hx, cell_div hx]
      cases (b || decide (cx + 1 < w)) <;> rfl) (fun cy hy s _ => by
      show spec_l08Jumps.s1 w h b e 1 0 (cy : Int) s (w : Int) = _
      unfold spec_l08Jumps.s1
      rw [if_neg (by simp)]
      simp) (fun cy hy s s' hs => by
      show spec_l08Jumps.s0 w h b e 1 0 s (cy : Int) = _
      unfold spec_l08Jumps.s0
      rw [if_pos (by simp; omega)]
      have hs' := hs
      simp only [Int.ofNat_zero] at hs'
      rw [hs']
      simp only [some_bind', one_more (show cy ≤ 1000000000 by omega)]) (fun s _ => by
      show spec_l08Jumps.s0 w h b e 1 0 s (h : Int) = _
      unfold spec_l08Jumps.s0
      rw [if_neg (by simp)]
      simp) z trivial
  have := A.1
  simp only [Int.ofNat_zero] at this
  rw [this]; rfl

theorem each_up (z : Option Nat) : impl_Sheet_each__impl_RayleighOf_3 w h b l m w h b l m e x y z = some ((w : Int), (h : Int), b, foldN (upF w h b e) (w * h) z) := by
  have hn := area_le w2 k2
  have B := each_fold (C := Int × Int × Bool × Option Nat) b l m w2 k2
    (step1 := fun yy (q : (Int × Int × Int × Bool × Option Nat)) => impl_Sheet_each__impl_RayleighOf_3.s1 w h b l m l m e x y yy q.1 q.2.1 q.2.2.1 q.2.2.2.1 q.2.2.2.2)
    (step0 := fun (q : (Int × Int × Int × Bool × Option Nat)) => impl_Sheet_each__impl_RayleighOf_3.s0 w h b l m l m e x y q.1 q.2.1 q.2.2.1 q.2.2.2.1 q.2.2.2.2)
    (fun xx yy i c => impl_RayleighOf_3 xx yy i c.1 c.2.1 c.2.2.1 l m e x y c.2.2.2) (fun _ _ _ => rfl) (fun _ _ => rfl)
    (fun s => ((w : Int), (h : Int), b, s)) (upF w h b e) (fun _ _ => True) (fun xx yy hx hy s _ => by
      refine ⟨?_, trivial⟩
      have hi := row_lt hx hy
      obtain ⟨a1, a2⟩ := at_cyc (u := (xx : Int) + 0) (v := (yy : Int) + 1) b l m (by omega) w2 (by omega) k2 ⟨by omega, by omega⟩ ⟨by omega, by omega⟩
      rw [cyc_self hx, Int.add_zero] at a1
      rw [cyc_self hx] at a2
      show impl_RayleighOf_3 xx yy ((xx + w * yy : Nat) : Int) w h b l m e x y s = _
      unfold impl_RayleighOf_3 impl_RayleighOf_2
      have c : (if b = true then some true else some (decide ((IntKind.wrap .i64 ((yy : Int) + 1)) < (h : Int)))) = some (b || decide (yy + 1 < h)) := by
        rw [wrap_small (by omega) (by omega)]
        cases b with
        | true => rfl
        | false => simp; omega
      rw [c, some_bind', wrap_small (n := (yy : Int) + 1) (by omega) (by omega), a1]
      simp only [some_bind', idx_nat, at0_eq (show xx + w * cyc h ((yy : Int) + 1) < e.length by omega), at0_eq (show xx + w * yy < e.length by omega), ite_some]
      unfold upF dsq
      rw [cell_mod hx, cell_div hx]) z trivial
  unfold impl_Sheet_each__impl_RayleighOf_3
  have B1 := B.1
  rw [B1]; rfl

theorem each_rt (z : Option Nat) : impl_Sheet_each__impl_RayleighOf_4 w h b l m w h b l m e x y z = some ((w : Int), (h : Int), b, foldN (rtF w h b e) (w * h) z) := by
  have hn := area_le w2 k2
  have B := each_fold (C := Int × Int × Bool × Option Nat) b l m w2 k2
    (step1 := fun yy (q : (Int × Int × Int × Bool × Option Nat)) => impl_Sheet_each__impl_RayleighOf_4.s1 w h b l m l m e x y yy q.1 q.2.1 q.2.2.1 q.2.2.2.1 q.2.2.2.2)
    (step0 := fun (q : (Int × Int × Int × Bool × Option Nat)) => impl_Sheet_each__impl_RayleighOf_4.s0 w h b l m l m e x y q.1 q.2.1 q.2.2.1 q.2.2.2.1 q.2.2.2.2)
    (fun xx yy i c => impl_RayleighOf_4 xx yy i c.1 c.2.1 c.2.2.1 l m e x y c.2.2.2) (fun _ _ _ => rfl) (fun _ _ => rfl)
    (fun s => ((w : Int), (h : Int), b, s)) (rtF w h b e) (fun _ _ => True) (fun xx yy hx hy s _ => by
      refine ⟨?_, trivial⟩
      have hi := row_lt hx hy
      obtain ⟨a1, a2⟩ := at_cyc (u := (xx : Int) + 1) (v := (yy : Int) + 0) b l m (by omega) w2 (by omega) k2 ⟨by omega, by omega⟩ ⟨by omega, by omega⟩
      rw [cyc_self hy, Int.add_zero] at a1
      rw [cyc_self hy] at a2
      show impl_RayleighOf_4 xx yy ((xx + w * yy : Nat) : Int) w h b l m e x y s = _
      unfold impl_RayleighOf_4 impl_RayleighOf_2
      have c : (if b = true then some true else some (decide ((IntKind.wrap .i64 ((xx : Int) + 1)) < (w : Int)))) = some (b || decide (xx + 1 < w)) := by
        rw [wrap_small (by omega) (by omega)]
        cases b with
        | true => rfl
        | false => simp; omega
      rw [c, some_bind', wrap_small (n := (xx : Int) + 1) (by omega) (by omega), a1]
      simp only [some_bind', idx_nat, at0_eq (show cyc w ((xx : Int) + 1) + w * yy < e.length by omega), at0_eq (show xx + w * yy < e.length by omega), ite_some]
      unfold rtF dsq
      rw [cell_mod hx, cell_div hx]) z trivial
  unfold impl_Sheet_each__impl_RayleighOf_4
  have B1 := B.1
  rw [B1]; rfl

omit k1 in
theorem above_lc (g : Int) (h1 : -200 ≤ g) (h2 : g ≤ 200) (hle : ∀ i, i < w * h → Le g (wid (at0 e i))) : Lc 512 (2 * g + 2) (foldN (rtF w h b e) (w * h) (foldN (upF w h b e) (w * h) (some 0))) := by
  have hn := area_le w2 k2
  have p53 : ∀ k : Nat, k ≤ 1000 → k < 2 ^ 53 := fun k hk => Nat.lt_of_le_of_lt hk (by decide)
  have term : ∀ j i, j < w * h → i < w * h → Lc 1 (2 * g + 2) (dsq e j i) := by
    intro j i hj hi
    have d := Le.sub (hle j hj) (hle i hi) (by omega) (by omega)
    have q := Le.mul d d (by omega) (by omega)
    rw [show g + 1 + (g + 1) = 2 * g + 2 by omega] at q
    exact q.lc
  have z : Lc 0 (2 * g + 2) (some 0) := by
    intro b hb
    cases hb
    have : double.read 0 = .number false 0 (-1074) := by decide
    rw [this]
    exact ⟨by omega, by simp⟩
  have up : Lc (w * h) (2 * g + 2) (foldN (upF w h b e) (w * h) (some 0)) := foldN_inv (fun k s => Lc k (2 * g + 2) s) z (w * h) (fun k s hk hI => by
    have xl : k % w < w := Nat.mod_lt _ (by omega)
    have yl : k / w < h := Nat.div_lt_of_lt_mul hk
    unfold upF
    split
    · exact Lc.add hI (term _ _ (row_lt xl (cyc_lt yl)) hk) (by omega) (p53 _ (by omega)) (by omega) (by omega)
    · exact fun b hb => (hI b hb).mono (by omega))
  have rt : Lc (w * h + w * h) (2 * g + 2) (foldN (rtF w h b e) (w * h) (foldN (upF w h b e) (w * h) (some 0))) := foldN_inv (fun k s => Lc (w * h + k) (2 * g + 2) s) up (w * h) (fun k s hk hI => by
    have xl : k % w < w := Nat.mod_lt _ (by omega)
    have yl : k / w < h := Nat.div_lt_of_lt_mul hk
    unfold rtF
    split
    · show Lc (w * h + k + 1) _ _
      exact Lc.add (c := w * h + k) hI (term _ _ (row_lt (cyc_lt xl) yl) hk) (by omega) (p53 _ (by omega)) (by omega) (by omega)
    · exact fun b hb => (hI b hb).mono (by omega))
  exact fun b hb => (rt b hb).mono (by omega)
end

theorem ray_eq (a0 a1 : Int) (b : Bool) (l m e x y : List (Option Nat)) (h3 : l.length ≤ 1000000000) (h4 : m.length ≤ 1000000000) : ∃ r : Option Nat × Bool, spec_RayleighOf a0 a1 b l m e x y = some r ∧ impl_RayleighOf a0 a1 b l m e x y = some r := by
  unfold spec_RayleighOf impl_RayleighOf
  obtain ⟨v, e1, e2⟩ := is_eq a0 a1 b l m h3 h4
  rw [e1]
  cases v with
  | false =>
    have hf : impl_IsField a0 a1 b l m e x y = some false := by unfold impl_IsField; rw [e2]; rfl
    rw [hf]
    exact ⟨(some 0, false), rfl, rfl⟩
  | true =>
    obtain ⟨u, f1, f2⟩ := fits_eq e x y h3 h4 e1
    rw [f1, f2]
    cases u with
    | false => exact ⟨(some 0, false), rfl, rfl⟩
    | true =>
      obtain ⟨w, h, rfl, rfl, w1, w2, k1, k2, le, lx, ly, hv⟩ := field_num f2
      have hn := area_le w2 k2
      obtain ⟨_, _, hw', hk', _, _, _, _, l3, l4⟩ := valid_has hv
      obtain rfl := Int.ofNat.inj hw'
      obtain rfl := Int.ofNat.inj hk'
      obtain ⟨c, c1, c2, c3⟩ := contains_eq l h3
      have ok := valid_speeds h3 hv
      rw [c1]
      simp only [some_bind', Bool.not_true, Bool.false_eq_true, if_false]
      have S := loop_first (S := Option Nat) (step := fun (s : ((Option Nat) × Bool × (Option Nat) × Int)) => spec_RayleighOf.s0 l e s.1 s.2.1 s.2.2.1 s.2.2.2) (fun s k => ((some 0 : Option Nat), false, s, (k : Int))) (fun k => fcmp .eql .f32 (at0 l k) (some 0)) (lowF l e) (w * h) (fun k => .inr ((some 0 : Option Nat), false)) (fun s => .inl ((some 0 : Option Nat), false, s, ((w * h : Nat) : Int), false)) (some 0) (fun k s hk => by
        show spec_RayleighOf.s0 l e (some 0) false s (k : Int) = _
        unfold spec_RayleighOf.s0
        rw [if_pos (by simp [le]; omega), idx_nat, idx_nat, at0_eq (show k < l.length by omega), at0_eq (show k < e.length by omega)]
        simp only [some_bind', ite_some, one_more (show k ≤ 1000000000 by omega)]
        rfl) (fun s => by
        show spec_RayleighOf.s0 l e (some 0) false s ((w * h : Nat) : Int) = _
        unfold spec_RayleighOf.s0
        rw [if_neg (by simp [le])]
        simp [le])
      simp only [Int.ofNat_zero] at S
      cases c with
      | true =>
        obtain ⟨i, hi, hg⟩ := c3 rfl
        rcases S with ⟨s1, _⟩ | ⟨k, _, _, s2⟩
        · have := okTo_pos (ok i hi)
          rw [s1 i (by omega), hg] at this
          cases this
        · rw [s2]
          exact ⟨(some 0, false), rfl, rfl⟩
      | false =>
        have pos := c2 rfl
        rcases S with ⟨_, s2⟩ | ⟨k, hk, s1, _⟩
        · rw [s2]
          have I := loop_fold (step := fun (s : ((Option Nat) × Int)) => impl_RayleighOf.s0 l e s.1 s.2) (fun s k => (s, (k : Int))) (lowF l e) (fun _ _ => True) (w * h) (fun s => (s, ((w * h : Nat) : Int), false)) (some 0) trivial (fun k s hk _ => by
            refine ⟨?_, trivial⟩
            show impl_RayleighOf.s0 l e s (k : Int) = _
            unfold impl_RayleighOf.s0 impl_square
            rw [if_pos (by simp [le]; omega), idx_nat, idx_nat, at0_eq (show k < l.length by omega), at0_eq (show k < e.length by omega)]
            simp only [some_bind', one_more (show k ≤ 1000000000 by omega)]
            rfl) (fun s _ => by
            show impl_RayleighOf.s0 l e s ((w * h : Nat) : Int) = _
            unfold impl_RayleighOf.s0
            rw [if_neg (by simp [le])]
            simp [le])
          have I1 := I.1
          simp only [Int.ofNat_zero] at I1
          simp only [jumps_up b l m e x y w1 w2 k1 k2 le, jumps_rt b l m e x y w1 w2 k1 k2 le, each_up b l m e x y w1 w2 k1 k2 le, each_rt b l m e x y w1 w2 k1 k2 le, some_bind', I1, Bool.false_eq_true, if_false]
          cases hg : fcmp .gtr .f64 (foldN (lowF l e) (w * h) (some 0)) (some 0) with
          | false => exact ⟨(some 0, false), rfl, rfl⟩
          | true =>
            rw [fold_rounds] at hg
            obtain ⟨r, hr⟩ := ray_fcv (fun i => wid (at0 e i)) (fun i => wid (at0 l i)) (w * h) (foldN (rtF w h b e) (w * h) (foldN (upF w h b e) (w * h) (some 0))) (fun i hi => by
              have o := ok i (by omega)
              unfold okTo at o
              rw [Bool.and_eq_true] at o
              exact speed_pos (pos i (by omega)) o.2) (fun i b s m p hb hr hm => wid_range _ hb hr hm) (fun g g1 g2 hle => above_lc b e w1 w2 k2 le g g1 g2 hle) hg
            rw [← half64] at *
            have hr' : fcv .f64 .f32 (fop .quo .f64 (fop .quo .f64 (foldN (rtF w h b e) (w * h) (foldN (upF w h b e) (w * h) (some 0))) (some 4611686018427387904)) (foldN (lowF l e) (w * h) (some 0))) = some r := by
              rw [fold_rounds (lowF l e)]; exact hr
            unfold spec_l01Narrow
            rw [hr']
            exact ⟨(r, true), rfl, rfl⟩
        · have := okTo_pos (ok k (by omega))
          rw [s1, pos k (by omega)] at this
          cases this

theorem laws_FnExactRayleighOf_true (a0 a1 : Int) (a2 : Bool) (a3 a4 e x y : List (Option Nat)) (h3 : a3.length ≤ 9223372036854775807) (h4 : a4.length ≤ 9223372036854775807) (he : e.length ≤ 9223372036854775807) (hx : x.length ≤ 9223372036854775807) (hy : y.length ≤ 9223372036854775807) : laws_FnExactRayleighOf a0 a1 a2 a3 a4 e x y = some true := by
  unfold laws_FnExactRayleighOf
  rcases szSheet_cases a0 a1 a2 a3 a4 1048576 (by omega) (by omega) h3 h4 with h | ⟨h, hl⟩
  · rw [h]; rfl
  · rw [h, some_bind', if_neg (by simp; omega)]
    rcases szField_cases e x y (1048576 - a3.length - a4.length) (by omega) (by omega) he hx hy with h | ⟨h, hl2⟩
    · rw [h]; rfl
    · rw [h, some_bind', if_neg (by simp; omega)]
      obtain ⟨⟨r1, b⟩, e1, e2⟩ := ray_eq a0 a1 a2 a3 a4 e x y (by omega) (by omega)
      simp only [toSheet_eq a0 a1 a2 a3 a4 (by omega) (by omega), toField_eq e x y (by omega) (by omega) (by omega), e1, e2, some_bind', same_self _ (Cl.wid r1), eqSheet_self a0 a1 a2 a3 a4 (by omega) (by omega), eqField_self e x y (by omega) (by omega) (by omega), bne_self_eq_false, Bool.not_true, Bool.false_eq_true, if_false]
end Go.H
