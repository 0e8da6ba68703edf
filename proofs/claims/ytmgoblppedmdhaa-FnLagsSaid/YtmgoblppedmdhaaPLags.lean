/- Records that come later: the plain law. -/
import Derived.Test.YtmgoblppedmdhaaGLags
import Derived.Test.YtmgoblppedmdhaaPRec
import Derived.Test.YtmgoblppedmdhaaPSum
set_option linter.unusedVariables false
namespace Go.H
open Go Ieee

/-- a list of quarters, as integers -/
structure Qs (l : List (Option Nat)) (n : Nat) (g : Nat → Int) : Prop where
  len : l.length = n
  val : ∀ i, i < n → ∃ x, l[i]? = some x ∧ valf .f32 x = some (g i * 2 ^ 2398)
  lo : ∀ i, -8 ≤ g i
  hi : ∀ i, g i ≤ 8

/-- how alike they are with a shift, in sixteenths -/
def corrZ (n m : Nat) (g h : Nat → Int) (s : Int) : Int := sumN (fun i => if 0 ≤ (i : Int) + s ∧ (i : Int) + s < (m : Int) then g i * h ((i : Int) + s).toNat else 0) n

theorem prod64 {x y : Int} (h1 : -8 ≤ x) (h2 : x ≤ 8) (h3 : -8 ≤ y) (h4 : y ≤ 8) : -64 ≤ x * y ∧ x * y ≤ 64 := by
  have a : x.natAbs ≤ 8 := by omega
  have b : y.natAbs ≤ 8 := by omega
  have c : x.natAbs * y.natAbs ≤ 8 * 8 := Nat.mul_le_mul a b
  rw [← Int.natAbs_mul] at c
  omega

theorem pow_split (a b : Nat) (z : Int) : z * 2 ^ a * 2 ^ b = z * 2 ^ (a + b) := by
  rw [Int.mul_assoc, ← Int.pow_add]

theorem scale_le {z B : Int} (h : z ≤ B) (q : Nat) : z * 2 ^ q ≤ B * 2 ^ q := by
  rw [← castpow]
  exact Int.mul_le_mul_of_nonneg_right h (Int.natCast_nonneg _)

theorem big24 (q : Nat) {z B : Int} (h1 : -B ≤ z) (h2 : z ≤ B) (N : Nat) (hB : B ≤ 2 ^ N) : -(2 ^ (N + q)) ≤ z * 2 ^ q ∧ z * 2 ^ q ≤ 2 ^ (N + q) := by
  rw [Int.pow_add]
  have a := scale_le (Int.le_trans h2 hB) q
  have b := scale_le (show -(2 ^ N : Int) ≤ z by omega) q
  rw [Int.neg_mul] at b
  exact ⟨b, a⟩

theorem zero64 : valf .f64 (some 0) = some 0 := by decide +kernel

theorem corr_ok {a b : List (Option Nat)} {n m : Nat} {g h : Nat → Int} (ha : Qs a n g) (hb : Qs b m h) (hn : n ≤ 16) (hm1 : 1 ≤ m) (hm : m ≤ 16) (s : Int) (s1 : -100 ≤ s) (s2 : s ≤ 100) :
    ∃ y, impl_correlation a b s = some y ∧ valf .f32 y = some (corrZ n m g h s * 2 ^ 2396) := by
  let f := fun (i : Nat) (z : Option Nat) => if 0 ≤ (i : Int) + s ∧ (i : Int) + s < (m : Int) then fop .add .f64 z (fop .mul .f64 (wid (a[i]?.getD none)) (wid (b[((i : Int) + s).toNat]?.getD none))) else z
  have L64 : FloatKind.f64.format.leastPlace = -1074 := by decide
  have A := loop_fold (step := fun (t : ((Option Nat) × Int)) => impl_correlation.s0 a b s t.1 t.2) (fun z k => (z, (k : Int))) f (fun k z => valf .f64 z = some (sumN (fun i => if 0 ≤ (i : Int) + s ∧ (i : Int) + s < (m : Int) then g i * h ((i : Int) + s).toNat else 0) k * 2 ^ 2396)) n (fun z => (z, (n : Int), false)) (some 0) (by show valf .f64 (some 0) = some (0 * 2 ^ 2396); rw [Int.zero_mul]; exact zero64) (fun k z hk hI => by
    obtain ⟨x, hx, vx⟩ := ha.val k hk
    have hwk : IntKind.wrap .i64 ((k : Int) + s) = (k : Int) + s := wrap_small (by omega) (by omega)
    have hwm : IntKind.wrap .i64 ((m : Int) - 1) = (m : Int) - 1 := wrap_small (by omega) (by omega)
    constructor
    · show impl_correlation.s0 a b s z (k : Int) = _
      unfold impl_correlation.s0 impl_within
      rw [if_pos (by simp [ha.len]; omega), idx_nat, hx]
      simp only [some_bind', hb.len, hwk, hwm, ite_andB, one_more (show k ≤ 1000000000 by omega)]
      by_cases hc : 0 ≤ (k : Int) + s ∧ (k : Int) + s < (m : Int)
      · have hc' : (decide ((k : Int) + s ≥ 0) && decide ((k : Int) + s ≤ (m : Int) - 1)) = true := by simp; omega
        have hj : ((k : Int) + s).toNat < m := by omega
        obtain ⟨y, hy, vy⟩ := hb.val _ hj
        have hidx : idx b ((k : Int) + s) = some y := by
          have e : (k : Int) + s = ((((k : Int) + s).toNat : Nat) : Int) := by omega
          rw [e, idx_nat, hy]
        simp only [f, hc', if_true, hidx, some_bind']
        rw [if_pos hc, hx, hy]
        rfl
      · have hc' : (decide ((k : Int) + s ≥ 0) && decide ((k : Int) + s ≤ (m : Int) - 1)) = false := by
          rw [Bool.and_eq_false_iff]
          simp only [decide_eq_false_iff_not]
          omega
        simp only [f, hc', Bool.false_eq_true, if_false, some_bind']
        rw [if_neg hc]
    · rw [sumN]
      simp only [f]
      by_cases hc : 0 ≤ (k : Int) + s ∧ (k : Int) + s < (m : Int)
      · have hj : ((k : Int) + s).toNat < m := by omega
        obtain ⟨y, hy, vy⟩ := hb.val _ hj
        rw [if_pos hc, if_pos hc, hx, hy, Option.getD_some, Option.getD_some]
        obtain ⟨p1, p2⟩ := prod64 (ha.lo k) (ha.hi k) (hb.lo ((k : Int) + s).toNat) (hb.hi ((k : Int) + s).toNat)
        have hw : (g k * h ((k : Int) + s).toNat) * 2 ^ 2396 * 2 ^ UN = (g k * 2 ^ 2398) * (h ((k : Int) + s).toNat * 2 ^ 2398) := by
          have e : (g k * 2 ^ 2398) * (h ((k : Int) + s).toNat * 2 ^ 2398) = (g k * h ((k : Int) + s).toNat) * 2 ^ 2398 * 2 ^ 2398 := by
            simp only [Int.mul_assoc, Int.mul_left_comm, Int.mul_comm]
          rw [e, pow_split, pow_split]; rfl
        obtain ⟨b1, b2⟩ := big24 2396 p1 p2 53 (by decide)
        obtain ⟨v, v1, v2⟩ := valf.mul (k := .f64) (Q := 2396) (valf.wid vx) (valf.wid vy) (by rw [L64]; decide) (by decide) hw b1 b2
        have v3 := v2.2.2.1 ⟨_, Int.mul_comm _ _⟩
        rw [v3] at v1
        have hs := sumN_bd (F := fun i : Nat => if 0 ≤ (i : Int) + s ∧ (i : Int) + s < (m : Int) then g i * h ((i : Int) + s).toNat else 0) (B := 64) k (fun i _ => by
          split
          · exact prod64 (ha.lo i) (ha.hi i) (hb.lo _) (hb.hi _)
          · omega)
        obtain ⟨c1, c2⟩ := big24 2396 (z := sumN (fun i : Nat => if 0 ≤ (i : Int) + s ∧ (i : Int) + s < (m : Int) then g i * h ((i : Int) + s).toNat else 0) k + g k * h ((k : Int) + s).toNat) (B := 2000) (by omega) (by omega) 53 (by decide)
        rw [Int.add_mul] at c1 c2
        obtain ⟨u, u1, u2⟩ := valf.add (k := .f64) (Q := 2396) hI v1 (by rw [L64]; decide) (by decide) c1 c2
        have u3 := u2.2.2.1 (by rw [← Int.add_mul]; exact ⟨_, Int.mul_comm _ _⟩)
        rw [u1, u3, Int.add_mul]
      · rw [if_neg hc, if_neg hc, Int.add_zero]; exact hI) (fun z _ => by
    show impl_correlation.s0 a b s z (n : Int) = _
    unfold impl_correlation.s0
    rw [if_neg (by simp [ha.len])]
    simp [ha.len])
  obtain ⟨A1, A2⟩ := A
  have hs := sumN_bd (F := fun i : Nat => if 0 ≤ (i : Int) + s ∧ (i : Int) + s < (m : Int) then g i * h ((i : Int) + s).toNat else 0) (B := 64) n (fun i _ => by
    split
    · exact prod64 (ha.lo i) (ha.hi i) (hb.lo _) (hb.hi _)
    · omega)
  obtain ⟨c1, c2⟩ := big24 2396 (z := corrZ n m g h s) (B := 2000) (by unfold corrZ; omega) (by unfold corrZ; omega) 24 (by decide)
  obtain ⟨y, v, y1, y2, y3⟩ := valf.fcv (Q := 2396) A2 (by decide) (by decide) c1 c2
  refine ⟨y, ?_, ?_⟩
  · unfold impl_correlation
    have A1' : loopF (fun (t : ((Option Nat) × Int)) => impl_correlation.s0 a b s t.1 t.2) ((some 0), 0) = some (foldN f n (some 0), (n : Int), false) := A1
    rw [A1']
    simp only [some_bind', y1]
  · rw [y2, y3.2.2.1 ⟨_, Int.mul_comm _ _⟩]; rfl

/-- the list that comes later -/
def laterZ (d : Nat) (g : Nat → Int) (i : Nat) : Int := if i < d then 0 else g (i - d)

theorem corr_auto (n d : Nat) (g : Nat → Int) (s : Int) : corrZ n (d + n) g (laterZ d g) s = sumN (fun i => sumN (fun j => if (j : Int) = (i : Int) + (s - d) then g i * g j else 0) n) n := by
  unfold corrZ
  refine sumN_congr n fun i hi => ?_
  rw [sumN_pick (fun j => g i * g j)]
  unfold laterZ
  by_cases h1 : 0 ≤ (i : Int) + (s - d) ∧ (i : Int) + (s - d) < (n : Int)
  · rw [if_pos h1, if_pos (by omega), if_neg (by omega)]
    have e : ((i : Int) + s).toNat - d = ((i : Int) + (s - d)).toNat := by omega
    rw [e]
  · rw [if_neg h1]
    by_cases h2 : 0 ≤ (i : Int) + s ∧ (i : Int) + s < ((d + n : Nat) : Int)
    · rw [if_pos h2, if_pos (by omega), Int.mul_zero]
    · rw [if_neg h2]

theorem corr_sym (n m : Nat) (g h : Nat → Int) (s : Int) : corrZ n m g h s = corrZ m n h g (-s) := by
  unfold corrZ
  rw [pairs_swap n m (fun i j => g i * h j)]
  refine sumN_congr m fun j _ => ?_
  rw [Int.mul_comm]

/-- the first of the greatest -/
def First (C : Nat → Int) (k j : Nat) : Prop := j < k ∧ (∀ i, i < k → C i ≤ C j) ∧ ∀ i, i < j → C i < C j

theorem lag_ok {a b : List (Option Nat)} {n m : Nat} {g h : Nat → Int} (ha : Qs a n g) (hb : Qs b m h) (hn1 : 1 ≤ n) (hn : n ≤ 16) (hm1 : 1 ≤ m) (hm : m ≤ 16) :
    ∃ j : Nat, impl_LagOf a b 8 = some ((j : Int) - 8, true) ∧ First (fun k => corrZ n m g h ((k : Int) - 8)) 17 j := by
  let Y := fun k : Nat => (impl_correlation a b ((k : Int) - 8)).getD none
  let f := fun (k : Nat) (t : Int × Option Nat × Bool) => if t.2.2 = false ∨ fcmp .gtr .f32 (Y k) t.2.1 = true then ((k : Int) - 8, Y k, true) else t
  have hY : ∀ k : Nat, k < 17 → impl_correlation a b ((k : Int) - 8) = some (Y k) ∧ valf .f32 (Y k) = some (corrZ n m g h ((k : Int) - 8) * 2 ^ 2396) := by
    intro k hk
    obtain ⟨y, y1, y2⟩ := corr_ok ha hb hn hm1 hm ((k : Int) - 8) (by omega) (by omega)
    simp only [Y, y1, Option.getD_some]
    exact ⟨trivial, y2⟩
  have pos := ipow_pos 2396
  have A := loop_fold (step := fun (s : (Int × (Option Nat) × Bool × Int)) => impl_LagOf.s0 a b 8 s.1 s.2.1 s.2.2.1 s.2.2.2) (fun t k => (t.1, t.2.1, t.2.2, (k : Int) - 8)) f
    (fun k t => (k = 0 ∧ t.2.2 = false) ∨ (t.2.2 = true ∧ ∃ j : Nat, t.1 = (j : Int) - 8 ∧ valf .f32 t.2.1 = some (corrZ n m g h ((j : Int) - 8) * 2 ^ 2396) ∧ First (fun k => corrZ n m g h ((k : Int) - 8)) k j)) 17 (fun t => (t.1, t.2.1, t.2.2, 9, false)) (0, some 0, false) (.inl ⟨rfl, rfl⟩) (fun k t hk hI => by
      obtain ⟨y1, y2⟩ := hY k hk
      constructor
      · show impl_LagOf.s0 a b 8 t.1 t.2.1 t.2.2 ((k : Int) - 8) = _
        unfold impl_LagOf.s0
        have hw : IntKind.wrap .i64 ((k : Int) - 8 + 1) = ((k + 1 : Nat) : Int) - 8 := by rw [wrap_small (by omega) (by omega)]; omega
        rw [if_pos (decide_eq_true (show (k : Int) - 8 ≤ 8 by omega)), y1]
        simp only [some_bind', valf.eql y2 y2, decide_true, if_true, ite_orB, hw]
        simp only [f]
        by_cases hc : t.2.2 = false ∨ fcmp .gtr .f32 (Y k) t.2.1 = true
        · have hc' : (!t.2.2 || fcmp .gtr .f32 (Y k) t.2.1) = true := by
            rcases hc with hc | hc
            · rw [hc]; rfl
            · rw [hc, Bool.or_true]
          rw [hc', if_pos rfl, if_pos hc]
          rfl
        · have hc' : (!t.2.2 || fcmp .gtr .f32 (Y k) t.2.1) = false := by
            rw [Bool.or_eq_false_iff]
            constructor
            · cases h : t.2.2 with
              | false => exact absurd (.inl h) hc
              | true => rfl
            · cases h : fcmp .gtr .f32 (Y k) t.2.1 with
              | false => rfl
              | true => exact absurd (.inr h) hc
          rw [hc', if_neg (by simp), if_neg hc]
          rfl
      · right
        simp only [f]
        rcases hI with ⟨h0, h1⟩ | ⟨h1, j, j1, j2, j3, j4, j5⟩
        · subst h0
          rw [if_pos (.inl h1)]
          exact ⟨rfl, 0, rfl, y2, by omega, fun i hi => by rw [show i = 0 by omega]; exact Int.le_refl _, fun i hi => by omega⟩
        · have hg := valf.gtr y2 j2
          by_cases hc : corrZ n m g h ((j : Int) - 8) < corrZ n m g h ((k : Int) - 8)
          · have hc2 := Int.mul_lt_mul_of_pos_right hc pos
            rw [decide_eq_true hc2] at hg
            rw [if_pos (.inr hg)]
            refine ⟨rfl, k, rfl, y2, by omega, fun i hi => ?_, fun i hi => ?_⟩
            · by_cases hik : i = k
              · rw [hik]; exact Int.le_refl _
              · have := j4 i (by omega); simp only at this ⊢; omega
            · have := j4 i (by omega); simp only at this ⊢; omega
          · have hc2 : ¬ (corrZ n m g h ((j : Int) - 8) * 2 ^ 2396 < corrZ n m g h ((k : Int) - 8) * 2 ^ 2396) := fun h => hc (Int.lt_of_mul_lt_mul_right h (Int.le_of_lt pos))
            rw [decide_eq_false hc2] at hg
            rw [if_neg (by rintro (h | h); rw [h1] at h; cases h; rw [hg] at h; cases h)]
            refine ⟨h1, j, j1, j2, by omega, fun i hi => ?_, j5⟩
            by_cases hik : i = k
            · subst hik; simp only; omega
            · exact j4 i (by omega)) (fun t _ => by
      show impl_LagOf.s0 a b 8 t.1 t.2.1 t.2.2 (((17 : Nat) : Int) - 8) = _
      unfold impl_LagOf.s0
      rw [if_neg (by decide)]
      rfl)
  obtain ⟨A1, A2⟩ := A
  rcases A2 with ⟨h0, _⟩ | ⟨h1, j, j1, j2, j3⟩
  · cases h0
  · refine ⟨j, ?_, j3⟩
    unfold impl_LagOf impl_isRecord_float32 impl_within
    have c1 : (if decide ((a.length : Int) ≥ 1) = true then some (decide ((a.length : Int) ≤ 64)) else some false) = some true := by
      rw [if_pos (by rw [ha.len]; simp; omega), ha.len]; simp; omega
    have c2 : (if decide ((b.length : Int) ≥ 1) = true then some (decide ((b.length : Int) ≤ 64)) else some false) = some true := by
      rw [if_pos (by rw [hb.len]; simp; omega), hb.len]; simp; omega
    have e8 : IntKind.wrap .i64 (0 - 8) = ((0 : Nat) : Int) - 8 := by decide
    rw [c1, c2, e8]
    have A1' : loopF (fun (s : (Int × (Option Nat) × Bool × Int)) => impl_LagOf.s0 a b 8 s.1 s.2.1 s.2.2.1 s.2.2.2) (0, (some 0), false, ((0 : Nat) : Int) - 8) = _ := A1
    rw [A1']
    have c3 : (if decide ((8 : Int) ≥ 0) = true then some (decide ((8 : Int) ≤ 64)) else some false) = some true := by decide
    rw [c3]
    simp only [some_bind', Bool.not_true, Bool.false_eq_true, if_false, j1, h1]

theorem corrAt_ok {a b : List (Option Nat)} {n m : Nat} {g h : Nat → Int} (ha : Qs a n g) (hb : Qs b m h) (hn1 : 1 ≤ n) (hn : n ≤ 16) (hm1 : 1 ≤ m) (hm : m ≤ 16) (s : Int) (s1 : -8 ≤ s) (s2 : s ≤ 8) :
    ∃ y, impl_CorrelationAt a b s = some (y, true) ∧ valf .f32 y = some (corrZ n m g h s * 2 ^ 2396) := by
  obtain ⟨y, y1, y2⟩ := corr_ok ha hb hn hm1 hm s (by omega) (by omega)
  refine ⟨y, ?_, y2⟩
  unfold impl_CorrelationAt impl_isRecord_float32 impl_within
  have c1 : (if decide ((a.length : Int) ≥ 1) = true then some (decide ((a.length : Int) ≤ 64)) else some false) = some true := by
    rw [if_pos (by rw [ha.len]; simp; omega), ha.len]; simp; omega
  have c2 : (if decide ((b.length : Int) ≥ 1) = true then some (decide ((b.length : Int) ≤ 64)) else some false) = some true := by
    rw [if_pos (by rw [hb.len]; simp; omega), hb.len]; simp; omega
  have c3 : (if decide (s ≥ -64) = true then some (decide (s ≤ 64)) else some false) = some true := by
    rw [if_pos (by simp; omega)]; simp; omega
  rw [c1, c2, c3]
  simp only [some_bind', Bool.not_true, Bool.false_eq_true, if_false, y1]

theorem zero32 : valf .f32 (some 0) = some 0 := by decide +kernel

theorem quarters {l : List (Option Nat)} (h : ∀ v ∈ l, ∃ c, c < 17 ∧ v = quart c) : ∃ g : Nat → Int, Qs l l.length g := by
  classical
  refine ⟨fun i => if h : ∃ c : Nat, c < 17 ∧ l[i]? = some (quart c) then ((Classical.choose h : Nat) : Int) - 8 else 0, rfl, fun i hi => ?_, fun i => ?_, fun i => ?_⟩
  · have hex : ∃ c : Nat, c < 17 ∧ l[i]? = some (quart c) := by
      obtain ⟨c, c1, c2⟩ := h l[i] (List.getElem_mem hi)
      exact ⟨c, c1, by rw [List.getElem?_eq_getElem hi, c2]⟩
    obtain ⟨c1, c2⟩ := Classical.choose_spec hex
    refine ⟨_, c2, ?_⟩
    simp only [dif_pos hex]
    exact quart_val _ c1
  · split
    · omega
    · omega
  · split
    · rename_i hex
      have := (Classical.choose_spec hex).1
      omega
    · omega

theorem later_qs {l : List (Option Nat)} {n d : Nat} {g : Nat → Int} (h : Qs l n g) : Qs (List.replicate d (some 0) ++ l) (d + n) (laterZ d g) := by
  refine ⟨by simp [h.len], fun i hi => ?_, fun i => ?_, fun i => ?_⟩
  · unfold laterZ
    by_cases hd : i < d
    · refine ⟨some 0, ?_, ?_⟩
      · rw [List.getElem?_append_left (by simpa using hd)]; simp [hd]
      · rw [if_pos hd, Int.zero_mul]; exact zero32
    · obtain ⟨x, x1, x2⟩ := h.val (i - d) (by omega)
      refine ⟨x, ?_, ?_⟩
      · rw [List.getElem?_append_right (by simp; omega)]; simpa using x1
      · rw [if_neg hd]; exact x2
  · unfold laterZ; split; omega; exact h.lo _
  · unfold laterZ; split; omega; exact h.hi _

theorem zeros_loop {l : List (Option Nat)} {n : Nat} {g : Nat → Int} (h : Qs l n g) (p : Int) (hp : IntKind.wrap .i64 (1 + p) = (n : Int)) (hn : n ≤ 1000) :
    loopF (fun (s : (Bool × Int)) => laws_FnLags.s0 p l s.1 s.2) (true, 0) = some ((List.range n).all (fun i => decide (g i = 0)), (n : Int), false) := by
  have A := loop_fold (step := fun (s : (Bool × Int)) => laws_FnLags.s0 p l s.1 s.2) (fun c k => (c, (k : Int))) (fun k c => c && decide (g k = 0)) (fun k c => c = (List.range k).all (fun i => decide (g i = 0))) n (fun c => (c, (n : Int), false)) true (by simp) (fun k c hk hI => by
    obtain ⟨x, x1, x2⟩ := h.val k hk
    constructor
    · show laws_FnLags.s0 p l c (k : Int) = _
      unfold laws_FnLags.s0
      rw [hp, if_pos (by simp; omega), idx_nat, x1]
      have hz : fcmp .eql .f32 x (some 0) = decide (g k = 0) := by
        rw [valf.eql x2 zero32, decide_eq_decide]
        constructor
        · intro h
          refine (Int.mul_eq_zero.1 h).resolve_right ?_
          rw [← castpow]
          have := Nat.two_pow_pos 2398
          omega
        · intro h; rw [h, Int.zero_mul]
      simp only [some_bind', ite_andB, hz, one_more (show k ≤ 1000000000 by omega)]
    · rw [hI, List.range_succ, List.all_append]; simp) (fun c _ => by
    show laws_FnLags.s0 p l c (n : Int) = _
    unfold laws_FnLags.s0
    rw [hp, if_neg (by simp)]
    simp)
  obtain ⟨A1, A2⟩ := A
  rw [← A2]
  exact A1

theorem laws_FnLags_true (a0 a1 : List Int) (h0 : ∀ x ∈ a0, 0 ≤ x ∧ x ≤ 255) (h1 : ∀ x ∈ a1, 0 ≤ x ∧ x ≤ 255) : laws_FnLags a0 a1 = some true := by
  unfold laws_FnLags laws_r8Long
  simp only [some_bind', ite_orB]
  cases (decide ((a0.length : Int) > 48) || decide ((a1.length : Int) > 48)) with
  | true => rfl
  | false =>
    obtain ⟨p, e1, p0, p1⟩ := r8At_ok h1 40 8 (by omega)
    obtain ⟨p, rfl⟩ := Int.eq_ofNat_of_zero_le p0
    have hw : IntKind.wrap .i64 (1 + (p : Int)) = ((1 + p : Nat) : Int) := by rw [wrap_small (by omega) (by omega)]; rfl
    obtain ⟨l, e2, ll, hl⟩ := record_ok h0 (1 + p) (by omega)
    obtain ⟨g, hq⟩ := quarters hl
    rw [ll] at hq
    obtain ⟨d, e3, d0, d1⟩ := r8At_ok h1 41 8 (by omega)
    obtain ⟨d, rfl⟩ := Int.eq_ofNat_of_zero_le d0
    obtain ⟨v, e4, v0, v1⟩ := r8At_ok h1 42 17 (by omega)
    have hq2 := later_qs (d := d) hq
    have hs : IntKind.wrap .i64 (v - 8) = v - 8 := wrap_small (by omega) (by omega)
    have hs2 : IntKind.wrap .i64 (0 - (v - 8)) = -(v - 8) := by rw [wrap_small (by omega) (by omega)]; omega
    obtain ⟨j, g1, f1, f2, f3⟩ := lag_ok hq hq2 (by omega) (by omega) (by omega) (by omega)
    obtain ⟨y, g2, y2⟩ := corrAt_ok hq hq2 (by omega) (by omega) (by omega) (by omega) (v - 8) (by omega) (by omega)
    obtain ⟨z, g3, z2⟩ := corrAt_ok hq2 hq (by omega) (by omega) (by omega) (by omega) (-(v - 8)) (by omega) (by omega)
    rw [← corr_sym] at z2
    have hz := zeros_loop hq (p : Int) hw (by omega)
    have htn : Int.toNat (d : Int) = d := Int.toNat_natCast d
    simp only [e1, some_bind', hw, e2, e3, htn, Bool.false_eq_true, if_false]
    rw [if_pos (by omega), if_pos (by simp [ll]; omega), g1]
    simp only [some_bind', hz, e4, hs, hs2, g2, g3, valf.eql y2 z2, decide_true, if_true]
    cases hall : (List.range (1 + p)).all (fun i => decide (g i = 0)) with
    | true =>
      have hg : ∀ i, i < 1 + p → g i = 0 := fun i hi => by
        have := List.all_eq_true.1 hall i (List.mem_range.2 hi)
        simpa using this
      have hC : ∀ s, corrZ (1 + p) (d + (1 + p)) g (laterZ d g) s = 0 := by
        intro s
        unfold corrZ
        rw [sumN_congr (G := fun _ => 0) _ (fun i hi => by rw [hg i hi]; split <;> simp), sumN_zero]
      have hj : j = 0 := by
        refine Classical.byContradiction fun hne => ?_
        have := f3 0 (by omega)
        simp only [hC] at this
        omega
      subst hj
      rfl
    | false =>
      have hnz : ∃ i, i < 1 + p ∧ g i ≠ 0 := by
        refine Classical.byContradiction fun hno => ?_
        have : (List.range (1 + p)).all (fun i => decide (g i = 0)) = true := List.all_eq_true.2 fun i hi => decide_eq_true (Classical.byContradiction fun h => hno ⟨i, List.mem_range.1 hi, h⟩)
        rw [this] at hall; cases hall
      have hj : j = d + 8 := by
        refine Classical.byContradiction fun hne => ?_
        have k1 := f2 (d + 8) (by omega)
        have k2 := auto_less (1 + p) g ((j : Int) - 8 - d) (by omega) hnz
        simp only [corr_auto] at k1
        have e5 : (((d + 8 : Nat) : Int) - 8 - (d : Int)) = 0 := by omega
        rw [e5] at k1
        have k3 : sumN (fun i => sumN (fun j => if (j : Int) = (i : Int) + 0 then g i * g j else 0) (1 + p)) (1 + p) = sumN (fun i => g i * g i) (1 + p) := by
          refine sumN_congr _ fun i hi => ?_
          rw [sumN_pick (fun j => g i * g j), if_pos (by omega)]
          simp
        rw [k3] at k1
        omega
      subst hj
      have e6 : (((d + 8 : Nat) : Int) - 8 == (d : Int)) = true := by simp
      simp only [Bool.false_eq_true, if_false, Bool.not_false, if_true, e6, some_bind']
end Go.H
