/- A step of the blocks that do not sleep: the plain law. -/
import Derived.Test.YthccgmjanoeohaaGAwake
import Derived.Test.YthccgmjanoeohaaPStepI
import Derived.Test.YthccgmjanoeohaaPDraw2
set_option linter.unusedVariables false
namespace Go.H
open Go Ieee

/-- reads as +0 -/
def Zr (x : Option Nat) : Prop := ∃ b, x = some b ∧ single.read b = single.read 0

theorem Zb.zr {x : Option Nat} (h : Zb x) : Zr x := by
  unfold Zb impl_BitsOf at h
  split at h
  · cases h
  · cases x with
    | none => cases h
    | some b =>
      refine ⟨b, rfl, ?_⟩
      have h2 : IntKind.wrap .i64 (b : Int) = 0 := Option.some.inj h
      unfold IntKind.wrap at h2
      have h3 : (if (true && decide ((b : Int) % 18446744073709551616 ≥ 9223372036854775808)) = true then (b : Int) % 18446744073709551616 - 18446744073709551616 else (b : Int) % 18446744073709551616) = 0 := h2
      simp only [Bool.true_and, decide_eq_true_eq] at h3
      have h4 : b % 18446744073709551616 = 0 := by
        split at h3 <;> omega
      have e1 : b % single.signWeight = 0 := by
        show b % 2147483648 = 0
        omega
      have e2 : b / single.signWeight % 2 = 0 := by
        show b / 2147483648 % 2 = 0
        omega
      unfold Format.read
      rw [e1, e2]
      rfl

theorem floatBits_congr {op : BinOp} {a a' b b' : Nat} (ha : single.read a = single.read a') (hb : single.read b = single.read b') : floatBits op .f32 a b = floatBits op .f32 a' b' := by
  have e : FloatKind.format .f32 = single := rfl
  unfold floatBits
  rw [e]
  cases op <;> first | rfl | (simp only [Format.add, Format.sub, Format.mul, Format.div, ha, hb])

theorem Zr.fop {op : BinOp} {x y : Option Nat} (hx : Zr x) (hy : Zr y) : Go.H.fop op .f32 x y = Go.H.fop op .f32 (some 0) (some 0) := by
  obtain ⟨a, rfl, ha⟩ := hx
  obtain ⟨b, rfl, hb⟩ := hy
  exact floatBits_congr ha hb
theorem Zr.fopL {op : BinOp} {x y : Option Nat} (hx : Zr x) : Go.H.fop op .f32 x y = Go.H.fop op .f32 (some 0) y := by
  obtain ⟨a, rfl, ha⟩ := hx
  cases y with
  | none => rfl
  | some b => exact floatBits_congr ha rfl

theorem sub00 : fop .sub .f32 (some 0) (some 0) = some 0 := by decide +kernel
theorem add00 : fop .add .f32 (some 0) (some 0) = some 0 := by decide +kernel
theorem half0 : fop .mul .f32 (some 1056964608) (some 0) = some 0 := by decide +kernel
theorem loss0 : ∀ c : Nat, c < 9 → fop .mul .f32 (some 0) (fop .sub .f32 (some 1065353216) (fop .quo .f32 (fofi .f32 (c : Int)) (some 1090519040))) = some 0 := by decide +kernel
theorem speed0 : ∀ c : Nat, c < 9 → fop .mul .f32 (fop .quo .f32 (fofi .f32 (c : Int)) (some 1098907648)) (some 0) = some 0 := by decide +kernel
theorem zb0 : Zb (some 0) := by unfold Zb impl_BitsOf; rw [if_neg (by decide)]; rfl
theorem zr0 : Zr (some 0) := ⟨0, rfl, rfl⟩

theorem hXv_zero {w h : Nat} {b : Bool} {e x : List (Option Nat)} {cx cy : Nat} (h1 : Zb (at0 e (cx + w * cy))) (h2 : Zb (at0 x (cx + w * cy))) (h3 : (b || decide (cy + 1 < h)) = true → Zb (at0 e (cx + w * cyc h ((cy : Int) + 1)))) : Zb (hXv w h b e x cx cy) := by
  unfold hXv
  split
  · rename_i hc
    rw [Zr.fop (h3 hc).zr h1.zr, sub00, half0, h2.zr.fopL, sub00]
    exact zb0
  · exact h2
theorem hYv_zero {w h : Nat} {b : Bool} {e y : List (Option Nat)} {cx cy : Nat} (h1 : Zb (at0 e (cx + w * cy))) (h2 : Zb (at0 y (cx + w * cy))) (h3 : (b || decide (cx + 1 < w)) = true → Zb (at0 e (cyc w ((cx : Int) + 1) + w * cy))) : Zb (hYv w h b e y cx cy) := by
  unfold hYv
  split
  · rename_i hc
    rw [Zr.fop (h3 hc).zr h1.zr, sub00, half0, h2.zr.fopL, add00]
    exact zb0
  · exact h2

section
variable {w h : Nat} (b : Bool) (l m e x y E X Y : List (Option Nat)) (w1 : 3 ≤ w) (w2 : w ≤ 16) (k1 : 3 ≤ h) (k2 : h ≤ 16) (le : e.length = w * h) (lx : x.length = w * h) (ly : y.length = w * h) (ll : l.length = w * h) (lm : m.length = w * h) (hl : ∀ v ∈ l, speedV v) (hm : ∀ v ∈ m, lossV v)
include w1 w2 k1 k2 le lx ly ll lm hl hm

/-- where all is quiet, all stays nought -/
theorem quiet_zero (hS : ∀ cx cy, cx < w → cy < h → E[cx + w * cy]? = some (nEv w h b l m e X Y cx cy) ∧ X[cx + w * cy]? = some (hXv w h b e x cx cy) ∧ Y[cx + w * cy]? = some (hYv w h b e y cx cy)) {cx cy : Nat} (hx : cx < w) (hy : cy < h) (hq : loudAny w h b (nothingV e x y) cx cy = false) : Zb (at0 E (cx + w * cy)) ∧ Zb (at0 X (cx + w * cy)) ∧ Zb (at0 Y (cx + w * cy)) := by
  have hi := row_lt hx hy
  have K : ∀ k, k < 5 → near w h b ((cx : Int) + (dirs.getD k (0, 0)).1) ((cy : Int) + (dirs.getD k (0, 0)).2) = true → nothingV e x y (cyc w ((cx : Int) + (dirs.getD k (0, 0)).1) + w * cyc h ((cy : Int) + (dirs.getD k (0, 0)).2)) = true := by
    intro k hk hn
    unfold loudAny at hq
    have := List.any_eq_false.1 hq k (List.mem_range.2 hk)
    unfold loud at this
    rw [hn] at this
    simpa using this
  have nr : ∀ u v : Int, (b = true ∨ (0 ≤ u ∧ u ≤ (w : Int) - 1 ∧ 0 ≤ v ∧ v ≤ (h : Int) - 1)) → near w h b u v = true := by
    intro u v hh
    unfold near
    rcases hh with hh | hh
    · rw [hh]; rfl
    · simp; omega
  have Z : ∀ j, j < w * h → nothingV e x y j = true → Zb (at0 e j) ∧ Zb (at0 x j) ∧ Zb (at0 y j) := fun j hj hn => (nothingV_eq le lx ly hj).2 hn
  have z0 : Zb (at0 e (cx + w * cy)) ∧ Zb (at0 x (cx + w * cy)) ∧ Zb (at0 y (cx + w * cy)) := by
    have := K 0 (by decide) (nr _ _ (.inr (by simp [dirs]; omega)))
    have h' : nothingV e x y (cyc w ((cx : Int) + 0) + w * cyc h ((cy : Int) + 0)) = true := this
    rw [cyc_self hx, cyc_self hy] at h'
    exact Z _ hi h'
  have cl : ∀ {w c : Nat}, 1 ≤ w → c < w → cyc w ((c : Int) + 1) < w ∧ cyc w ((c : Int) + -1) < w := by
    intro w c hw hc
    rw [cyc_up hc, cyc_dn hc]
    constructor <;> split <;> omega
  have cx1 := cl (show 1 ≤ w by omega) hx
  have cy1 := cl (show 1 ≤ h by omega) hy
  have zr_ : (b || decide (cx + 1 < w)) = true → Zb (at0 e (cyc w ((cx : Int) + 1) + w * cy)) := by
    intro hc
    have := K 1 (by decide) (nr _ _ (by simp at hc; rcases hc with hc | hc; exact .inl hc; exact .inr (by simp [dirs]; omega)))
    have h' : nothingV e x y (cyc w ((cx : Int) + 1) + w * cyc h ((cy : Int) + 0)) = true := this
    rw [cyc_self hy] at h'
    exact (Z _ (row_lt cx1.1 hy) h').1
  have zd_ : (b || decide (cy + 1 < h)) = true → Zb (at0 e (cx + w * cyc h ((cy : Int) + 1))) := by
    intro hc
    have := K 3 (by decide) (nr _ _ (by simp at hc; rcases hc with hc | hc; exact .inl hc; exact .inr (by simp [dirs]; omega)))
    have h' : nothingV e x y (cyc w ((cx : Int) + 0) + w * cyc h ((cy : Int) + 1)) = true := this
    rw [cyc_self hx] at h'
    exact (Z _ (row_lt hx cy1.1) h').1
  obtain ⟨s1, s2, s3⟩ := hS cx cy hx hy
  have hX := hXv_zero (w := w) (h := h) (b := b) z0.1 z0.2.1 zd_
  have hY := hYv_zero (w := w) (h := h) (b := b) z0.1 z0.2.2 zr_
  have aX : at0 X (cx + w * cy) = hXv w h b e x cx cy := by unfold at0; rw [s2]; rfl
  have aY : at0 Y (cx + w * cy) = hYv w h b e y cx cy := by unfold at0; rw [s3]; rfl
  have aE : at0 E (cx + w * cy) = nEv w h b l m e X Y cx cy := by unfold at0; rw [s1]; rfl
  rw [aX, aY, aE]
  refine ⟨?_, hX, hY⟩
  unfold nEv
  cases hr : rim w h b cx cy with
  | true => rw [if_pos rfl]; exact z0.1
  | false =>
    rw [if_neg (by simp)]
    have hin : b = true ∨ (1 ≤ cx ∧ cx + 1 < w ∧ 1 ≤ cy ∧ cy + 1 < h) := by
      cases b with
      | true => exact .inl rfl
      | false =>
        unfold rim at hr
        rw [wrap_small (by omega) (by omega), wrap_small (by omega) (by omega)] at hr
        simp at hr
        exact .inr (by omega)
    -- the cell on the left
    have hL : Zb (at0 Y (cyc w ((cx : Int) + -1) + w * cy)) := by
      have n2 := K 2 (by decide) (nr _ _ (by rcases hin with hb | hb; exact .inl hb; exact .inr (by simp [dirs]; omega)))
      have h' : nothingV e x y (cyc w ((cx : Int) + -1) + w * cyc h ((cy : Int) + 0)) = true := n2
      rw [cyc_self hy] at h'
      obtain ⟨q1, q2, q3⟩ := Z _ (row_lt cx1.2 hy) h'
      have e3 : at0 Y (cyc w ((cx : Int) + -1) + w * cy) = hYv w h b e y (cyc w ((cx : Int) + -1)) cy := by unfold at0; rw [(hS _ cy cx1.2 hy).2.2]; rfl
      rw [e3]
      refine hYv_zero q1 q3 fun _ => ?_
      have back : cyc w (((cyc w ((cx : Int) + -1) : Nat) : Int) + 1) = cx := by
        rw [cyc_up cx1.2, cyc_dn hx]
        split <;> split <;> omega
      rw [back]
      exact z0.1
    have hU : Zb (at0 X (cx + w * cyc h ((cy : Int) + -1))) := by
      have n4 := K 4 (by decide) (nr _ _ (by rcases hin with hb | hb; exact .inl hb; exact .inr (by simp [dirs]; omega)))
      have h' : nothingV e x y (cyc w ((cx : Int) + 0) + w * cyc h ((cy : Int) + -1)) = true := n4
      rw [cyc_self hx] at h'
      obtain ⟨q1, q2, q3⟩ := Z _ (row_lt hx cy1.2) h'
      have e3 : at0 X (cx + w * cyc h ((cy : Int) + -1)) = hXv w h b e x cx (cyc h ((cy : Int) + -1)) := by unfold at0; rw [(hS cx _ hx cy1.2).2.1]; rfl
      rw [e3]
      refine hXv_zero q1 q2 fun _ => ?_
      have back : cyc h (((cyc h ((cy : Int) + -1) : Nat) : Int) + 1) = cy := by
        rw [cyc_up cy1.2, cyc_dn hy]
        split <;> split <;> omega
      rw [back]
      exact z0.1
    rw [aX, aY]
    obtain ⟨c1, hc1, e1⟩ := hl (at0 l (cx + w * cy)) (by unfold at0; rw [List.getElem?_eq_getElem (show cx + w * cy < l.length by omega)]; exact List.getElem_mem _)
    obtain ⟨c2, hc2, e2⟩ := hm (at0 m (cx + w * cy)) (by unfold at0; rw [List.getElem?_eq_getElem (show cx + w * cy < m.length by omega)]; exact List.getElem_mem _)
    rw [e1, e2, Zr.fop hY.zr hL.zr, Zr.fop hX.zr hU.zr, sub00, sub00, speed0 c1 hc1, z0.1.zr.fopL, loss0 c2 hc2, add00]
    exact zb0
end

theorem sleep_says {w h s : Nat} {b : Bool} {N : Nat → Bool} {i : Nat} (hi : i < w * h) (hB : (sleepL w h s b N)[i % w / s + blocks w s * (i / w / s)]? = some true) : loudAny w h b N (i % w) (i / w) = false := by
  have I := foldN_inv (f := sleepF w h s b N) (fun n (B : List Bool) => ∀ k, B[k]? = some true → ∀ i, i < n → i % w / s + blocks w s * (i / w / s) = k → loudAny w h b N (i % w) (i / w) = false) (s := List.replicate (blocks w s * blocks h s) true) (fun k _ i hi => absurd hi (by omega)) (w * h) (fun n B hn ih k hk i hin hik => by
    unfold sleepF at hk
    by_cases hl : loudAny w h b N (n % w) (n / w) = true
    · rw [if_pos hl] at hk
      by_cases hkn : n % w / s + blocks w s * (n / w / s) = k
      · subst hkn
        rw [List.getElem?_set] at hk
        simp at hk
      · rw [List.getElem?_set_ne hkn] at hk
        by_cases he : i = n
        · subst he; exact absurd hik hkn
        · exact ih k hk i (by omega) hik
    · rw [if_neg hl] at hk
      by_cases he : i = n
      · subst he; simpa using hl
      · exact ih k hk i (by omega) hik)
  exact I _ hB i hi rfl

theorem sleepL_len {w h s : Nat} {b : Bool} {N : Nat → Bool} : (sleepL w h s b N).length = blocks w s * blocks h s :=
  foldN_inv (f := sleepF w h s b N) (fun _ B => B.length = blocks w s * blocks h s) (s := List.replicate (blocks w s * blocks h s) true) (by simp) (w * h) (fun k B _ hB => by unfold sleepF; split <;> simp [hB])

noncomputable def awakeF (B : List Bool) (k : Nat) (c : Int) : Int := if (!(B[k]?.getD true)) = true then IntKind.wrap .i64 (c + 1) else c
theorem awake_loop (B : List Bool) (hB : B.length ≤ 256) : loopF (fun (s : (Int × Int)) => laws_FnAwake.s0 (B, true) s.1 s.2) (0, 0) = some (foldN (awakeF B) B.length 0, (B.length : Int), false) := by
  have A := loop_fold (step := fun (s : (Int × Int)) => laws_FnAwake.s0 (B, true) s.1 s.2) (fun c k => (c, (k : Int))) (awakeF B) (fun _ _ => True) B.length (fun c => (c, (B.length : Int), false)) 0 trivial (fun k c hk _ => by
    refine ⟨?_, trivial⟩
    show laws_FnAwake.s0 (B, true) c (k : Int) = _
    unfold laws_FnAwake.s0 awakeF
    rw [if_pos (by simp; omega), idx_nat, List.getElem?_eq_getElem hk]
    simp only [some_bind', ite_some, one_more (show k ≤ 1000000000 by omega), Option.getD_some]) (fun c _ => by
    show laws_FnAwake.s0 (B, true) c (B.length : Int) = _
    unfold laws_FnAwake.s0
    rw [if_neg (by simp)]
    simp)
  exact A.1

theorem same_num (v : Option Nat) : spec_l01Same v v = some true := by
  unfold spec_l01Same
  obtain ⟨n, hn⟩ := bitsOf_some v
  have : spec_l01Bits v = some n := hn
  rw [this]
  simp

theorem same_zero {v : Option Nat} (h : Zb v) : spec_SameNumber v (some 0) = some true := by
  unfold spec_SameNumber spec_l01Same
  have h1 : spec_l01Bits v = some 0 := h
  have h2 : spec_l01Bits (some 0) = some 0 := zb0
  rw [h1, h2]; rfl

theorem sameAll_self (a : List (Option Nat)) (h : a.length ≤ 1000000000) : spec_l01SameAll a a = some true := by
  unfold spec_l01SameAll
  rw [if_neg (by simp)]
  have st := loop_all' (step := fun (s : (Bool × Int)) => spec_l01SameAll.s0 a a s.1 s.2) (n := a.length) (fun _ => false) false (false, (a.length : Int), false) (fun k hk => by
    show spec_l01SameAll.s0 a a false (k : Int) = _
    unfold spec_l01SameAll.s0
    rw [if_pos (by simp; omega), idx_nat, List.getElem?_eq_getElem hk]
    simp only [some_bind', same_num, Bool.not_true, Bool.false_eq_true, if_false, one_more (show k ≤ 1000000000 by omega)]) (by
    show spec_l01SameAll.s0 a a false (a.length : Int) = _
    unfold spec_l01SameAll.s0
    rw [if_neg (by simp)]
    simp)
  rw [st]
  simp

theorem b10At_ok {a : List Int} (hb : ∀ x ∈ a, 0 ≤ x ∧ x ≤ 255) (i n : Int) (h0 : 0 ≤ i) (h1 : i ≤ 1000) : ∃ r, laws_b10At a i n = some r ∧ 0 ≤ r ∧ (r < n ∨ r = 0) := by
  unfold laws_b10At
  by_cases hn : n ≤ 1
  · rw [if_pos (by simpa using hn)]
    exact ⟨0, rfl, by omega, .inr rfl⟩
  · rw [if_neg (by simpa using hn)]
    by_cases hi : i < (a.length : Int)
    · rw [if_pos (by simpa using hi)]
      obtain ⟨k, rfl⟩ := Int.eq_ofNat_of_zero_le h0
      have hk : k < a.length := by omega
      have hx := hb a[k] (List.getElem_mem hk)
      rw [idx_nat, List.getElem?_eq_getElem hk, some_bind', if_neg (by omega), wrap_small (n := a[k]) (by omega) (by omega)]
      exact ⟨_, rfl, Int.tmod_nonneg _ (by omega), .inl (Int.tmod_lt_of_pos _ (by omega))⟩
    · rw [if_neg (by simpa using hi), if_neg (by omega), wrap_small (n := i * 37) (by omega) (by omega), wrap_small (n := i * 37 + 11) (by omega) (by omega)]
      exact ⟨_, rfl, Int.tmod_nonneg _ (by omega), .inl (Int.tmod_lt_of_pos _ (by omega))⟩

theorem stepField_eq {w h : Nat} {b : Bool} {l m e x y E X Y : List (Option Nat)} (hf : impl_IsField w h b l m e x y = some true) (le : e.length ≤ 256) (lx : x.length ≤ 256) (ly : y.length ≤ 256) (hs : impl_stepped w h b l m e x y = some (E, X, Y)) : impl_StepField w h b l m e x y = some (E, X, Y, true) := by
  unfold impl_StepField impl_RunField impl_run__impl_RunField_1
  rw [hf, (in_eq _ _ _).2, (ownF_eq (show e.length ≤ 1000000000 by omega) (show x.length ≤ 1000000000 by omega) (show y.length ≤ 1000000000 by omega)).2]
  have c : (decide ((1 : Int) ≥ 0) && decide ((1 : Int) ≤ 64)) = true := by decide
  simp only [some_bind', c, Bool.not_true, Bool.false_eq_true, if_false]
  have n1 : (fun (s : (Int × (List (Option Nat)) × (List (Option Nat)) × (List (Option Nat)))) => impl_run__impl_RunField_1.s0 w h b l m 1 s.1 s.2.1 s.2.2.1 s.2.2.2) (0, e, x, y) = some (.inl (1, E, X, Y)) := by
    show impl_run__impl_RunField_1.s0 w h b l m 1 0 e x y = _
    unfold impl_run__impl_RunField_1.s0 impl_RunField_1
    rw [if_pos (by decide), hs]
    rfl
  have n2 : (fun (s : (Int × (List (Option Nat)) × (List (Option Nat)) × (List (Option Nat)))) => impl_run__impl_RunField_1.s0 w h b l m 1 s.1 s.2.1 s.2.2.1 s.2.2.2) (1, E, X, Y) = some (.inr (1, false, E, X, Y)) := by
    show impl_run__impl_RunField_1.s0 w h b l m 1 1 E X Y = _
    unfold impl_run__impl_RunField_1.s0
    rw [if_neg (by decide)]
    rfl
  rw [loopF_next n1, loopF_stop n2]
  rfl

theorem laws_FnAwake_true (a0 a1 : List Int) (h0 : ∀ x ∈ a0, 0 ≤ x ∧ x ≤ 255) (h1 : ∀ x ∈ a1, 0 ≤ x ∧ x ≤ 255) : laws_FnAwake a0 a1 = some true := by
  unfold laws_FnAwake laws_b10Long
  simp only [some_bind', ite_orB]
  cases (decide ((a0.length : Int) > 1048576) || decide ((a1.length : Int) > 1048576)) with
  | true => rfl
  | false =>
    obtain ⟨w, h, b, l, m, e1, w1, w2, k1, k2, ll, lm, hl, hm⟩ := sheet_draw h0
    have hn := area_le (show w ≤ 16 by omega) (show h ≤ 16 by omega)
    have hv := draw_valid (b := b) w1 (by omega) k1 (by omega) ll lm hl hm
    obtain ⟨e, x, y, e2, le, lx, ly, hf⟩ := field_draw h1 hv w1 (by omega) k1 (by omega) ll lm
    obtain ⟨r, e3, r0, r1⟩ := b10At_ok h1 0 4 (by omega) (by omega)
    obtain ⟨q, rfl⟩ := Int.eq_ofNat_of_zero_le r0
    have hs : IntKind.wrap .i64 (1 + (q : Int)) = ((1 + q : Nat) : Int) := by rw [wrap_small (by omega) (by omega)]; rfl
    obtain ⟨E, X, Y, lE, lX, lY, st, hS⟩ := full_stepI b l m e x y w1 (by omega) k1 (by omega) le lx ly ll lm
    have sl := impl_sleep (s := 1 + q) b l m e x y w1 (by omega) k1 (by omega) (by omega) (by omega) le lx ly hf
    have hbl := blocks_bd (w := w) (s := 1 + q) (by omega) (by omega)
    have hbl2 := blocks_bd (w := h) (s := 1 + q) (by omega) (by omega)
    have hBn := area_le (show blocks w (1 + q) ≤ 16 by omega) (show blocks h (1 + q) ≤ 16 by omega)
    have lB := sleepL_len (w := w) (h := h) (s := 1 + q) (b := b) (N := nothingV e x y)
    generalize hBd : sleepL w h (1 + q) b (nothingV e x y) = B at *
    have al := awake_loop B (by omega)
    have al' : loopF (fun (s : (Int × Int)) => impl_StepAwake.s0 (B, true) s.1 s.2) (0, 0) = _ := al
    have aw : impl_StepAwake w h b l m e x y ((1 + q : Nat) : Int) = some (E, X, Y, foldN (awakeF B) B.length 0, true) := by
      unfold impl_StepAwake
      simp only [sl, some_bind', Bool.not_true, Bool.false_eq_true, if_false, al', st]
    have sf := stepField_eq hf (by omega) (by omega) (by omega) st
    have fs : laws_b10Fields E X Y E X Y = some true := by
      unfold laws_b10Fields spec_SameField spec_l02Same
      rw [sameAll_self E (by omega), sameAll_self X (by omega), sameAll_self Y (by omega)]
      rfl
    have n2 : ¬ (((1 + q : Nat) : Int) = 0) := by omega
    have C := loop_all' (step := fun (s : (Bool × Int)) => laws_FnAwake.s1 ((w : Int), (h : Int), b, l, m) (e, x, y) (q : Int) (E, X, Y, foldN (awakeF B) B.length 0, true) (B, true) s.1 s.2) (n := w * h) (fun _ => false) false (false, ((w * h : Nat) : Int), false) (fun k hk => by
      show laws_FnAwake.s1 ((w : Int), (h : Int), b, l, m) (e, x, y) (q : Int) (E, X, Y, foldN (awakeF B) B.length 0, true) (B, true) false (k : Int) = _
      have xl : k % w < w := Nat.mod_lt _ (by omega)
      have yl : k / w < h := Nat.div_lt_of_lt_mul hk
      have hblk := block_lt (s := 1 + q) (show 1 ≤ w by omega) (show 1 ≤ h by omega) (by omega) xl yl
      have hkl : k % w / (1 + q) + blocks w (1 + q) * (k / w / (1 + q)) < B.length := by rw [lB]; exact hblk
      unfold laws_FnAwake.s1
      have n1 : ¬ ((w : Int) = 0) := by omega
      simp only [hs]
      rw [if_pos (by simp [le]; omega), if_neg n1, if_neg n2, if_neg n1, if_neg n2]
      simp only [tmod_nat, div_eq hk hn, blocks_eq (show 1 ≤ w by omega) (show w ≤ 16 by omega) (show 1 ≤ 1 + q by omega) (show 1 + q ≤ 16 by omega), block_eq (show 1 ≤ w by omega) (show 1 ≤ h by omega) (show w ≤ 16 by omega) (show h ≤ 16 by omega) (show 1 ≤ 1 + q by omega) xl yl, idx_nat, List.getElem?_eq_getElem hkl, some_bind']
      cases hB : B[k % w / (1 + q) + blocks w (1 + q) * (k / w / (1 + q))] with
      | false =>
        simp only [Bool.false_eq_true, if_false, some_bind', one_more (show k ≤ 1000000000 by omega)]
      | true =>
        have hq := sleep_says (w := w) (h := h) (s := 1 + q) (b := b) (N := nothingV e x y) hk (by rw [hBd, List.getElem?_eq_getElem hkl, hB])
        obtain ⟨z1, z2, z3⟩ := quiet_zero b l m e x y E X Y w1 (by omega) k1 (by omega) le lx ly ll lm hl hm hS xl yl hq
        rw [Nat.mod_add_div k w] at z1 z2 z3
        simp only [if_true, at0_eq (show k < E.length by omega), at0_eq (show k < X.length by omega), at0_eq (show k < Y.length by omega), some_bind', same_zero z1, same_zero z2, same_zero z3, Bool.not_true, Bool.false_eq_true, if_false, one_more (show k ≤ 1000000000 by omega)]) (by
      show laws_FnAwake.s1 ((w : Int), (h : Int), b, l, m) (e, x, y) (q : Int) (E, X, Y, foldN (awakeF B) B.length 0, true) (B, true) false ((w * h : Nat) : Int) = _
      unfold laws_FnAwake.s1
      rw [if_neg (by simp [le])]
      simp [le])
    have hno : (List.range (w * h)).any (fun _ => false) = false := by rw [List.any_eq_false]; simp
    rw [hno] at C
    simp only [Bool.false_eq_true, if_false] at C
    simp only [Bool.false_eq_true, if_false, e1, some_bind', e2, e3, sf, hs, aw, sl, fs, Bool.not_true, al, if_neg n2, bne_self_eq_false, blocks_eq (show 1 ≤ w by omega) (show w ≤ 16 by omega) (show 1 ≤ 1 + q by omega) (show 1 + q ≤ 16 by omega), blocks_eq (show 1 ≤ h by omega) (show h ≤ 16 by omega) (show 1 ≤ 1 + q by omega) (show 1 + q ≤ 16 by omega), area_eq (show blocks w (1 + q) ≤ 16 by omega) (show blocks h (1 + q) ≤ 16 by omega), lB]
    rw [lB] at C
    rw [C]
    rfl
end Go.H
