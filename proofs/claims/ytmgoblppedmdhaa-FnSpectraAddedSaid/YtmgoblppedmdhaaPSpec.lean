/- Spectra: by how much rounding turns them. -/
import Derived.Test.YtmgoblppedmdhaaGSpec
import Derived.Test.YtmgoblppedmdhaaPPh
import Derived.Test.YtmgoblppedmdhaaPFold
import Derived.Test.YtmgoblppedmdhaaPLoop
import Derived.Test.YtmgoblppedmdhaaPSum
import Derived.Test.YtmgoblppedmdhaaLibI
set_option linter.unusedVariables false
namespace Go.H
open Go Ieee

/-- what a spectrum's part is worth without rounding: the phases by 'ph', the numbers by 'g' (in quarters) -/
noncomputable def specZ (ph : Nat → Nat → Int) (n m : Nat) (g : Nat → Int) (k : Nat) : Int := sumN (fun i => ph n (i * m % n) * g i) k

theorem L32 : FloatKind.f32.format.leastPlace = -149 := by decide
theorem N32 : fbits1 .f32 = 24 := by decide
theorem L64 : FloatKind.f64.format.leastPlace = -1074 := by decide
theorem N64 : fbits1 .f64 = 53 := by decide

/-- a bound of a product with a small number -/
theorem mul_bd {a B : Int} {q : Int} (hB : 0 ≤ B) (h1 : -B ≤ a) (h2 : a ≤ B) {c : Nat} (q1 : -(c : Int) ≤ q) (q2 : q ≤ c) : -(B * c) ≤ a * q ∧ a * q ≤ B * c := by
  have e1 : a.natAbs ≤ B.natAbs := by omega
  have e2 : q.natAbs ≤ c := by omega
  have e3 := Nat.mul_le_mul e1 e2
  rw [← Int.natAbs_mul] at e3
  have e4 : B * c = ((B.natAbs * c : Nat) : Int) := by rw [Int.natCast_mul, Int.natAbs_of_nonneg hB]
  rw [e4]
  omega

/-- one term: a part of a point times a number in quarters -/
theorem term_val {c x : Option Nat} {d q : Int} (hc : valf .f32 c = some (4 * d)) (hx : valf .f32 x = some (q * 2 ^ 2398)) (d1 : -(2 ^ 2398 + 2 ^ 2370) ≤ d) (d2 : d ≤ 2 ^ 2398 + 2 ^ 2370) (q1 : -16 ≤ q) (q2 : q ≤ 16) :
    ∃ v, valf .f32 (fop .mul .f32 c x) = some v ∧ d * q - 2 ^ 2378 ≤ v ∧ v ≤ d * q + 2 ^ 2378 := by
  have hw : d * q * 2 ^ UN = 4 * d * (q * 2 ^ 2398) := by
    have e : (2 : Int) ^ UN = 4 * 2 ^ 2398 := by
      have : UN = 2 + 2398 := rfl
      rw [this, Int.pow_add]; rfl
    rw [e]
    simp only [Int.mul_assoc, Int.mul_left_comm, Int.mul_comm]
  obtain ⟨b1, b2⟩ := mul_bd (B := 2 ^ 2398 + 2 ^ 2370) (by have := ipow_pos 2398; have := ipow_pos 2370; omega) d1 d2 (c := 16) q1 q2
  have hB : (2 ^ 2398 + 2 ^ 2370 : Int) * ((16 : Nat) : Int) ≤ 2 ^ (fbits1 .f32 + 2379) := by rw [N32]; decide +kernel
  obtain ⟨v, v1, v2, v3, _⟩ := valf.mul (k := .f32) (Q := 2379) hc hx (by rw [L32]; decide) (by decide) hw (by omega) (by omega)
  refine ⟨v, v1, ?_, ?_⟩
  · have e : (2 : Int) ^ 2379 = 2 * 2 ^ 2378 := by decide +kernel
    rw [e] at v2 v3
    generalize (2 : Int) ^ 2378 = z at *
    omega
  · have e : (2 : Int) ^ 2379 = 2 * 2 ^ 2378 := by decide +kernel
    rw [e] at v2 v3
    generalize (2 : Int) ^ 2378 = z at *
    omega

/-- the error of one more term -/
def errE : Int := 2 ^ 2378 + 2 ^ 2382
theorem errE_eq : errE = 2 ^ 2378 + 2 ^ 2382 := by unfold errE; with_reducible rfl

/-- a sum and one more term -/
theorem step_val {s t : Option Nat} {a b S T : Int} {k : Nat} (hk : k ≤ 10) (hs : valf .f32 s = some a) (ht : valf .f32 t = some b) (a1 : S - k * errE ≤ a) (a2 : a ≤ S + k * errE) (b1 : T - 2 ^ 2378 ≤ b) (b2 : b ≤ T + 2 ^ 2378) (c1 : -(11 * 2 ^ 2403) ≤ S + T) (c2 : S + T ≤ 11 * 2 ^ 2403) :
    ∃ v, valf .f32 (fop .add .f32 s t) = some v ∧ (S + T) - (k + 1 : Nat) * errE ≤ v ∧ v ≤ (S + T) + (k + 1 : Nat) * errE := by
  have hE : 0 ≤ errE := by
    unfold errE
    exact Int.add_nonneg (inonneg _) (inonneg _)
  have hkE : (k : Int) * errE ≤ 10 * errE := Int.mul_le_mul_of_nonneg_right (by omega) hE
  have hBig : 11 * 2 ^ 2403 + 10 * errE + 2 ^ 2378 ≤ (2 : Int) ^ (fbits1 .f32 + 2383) := by rw [N32]; unfold errE; decide +kernel
  obtain ⟨v, v1, v2, v3, _⟩ := valf.add (k := .f32) (Q := 2383) hs ht (by rw [L32]; decide) (by decide) (by omega) (by omega)
  have e : (2 : Int) ^ 2383 = 2 * 2 ^ 2382 := by decide +kernel
  rw [e] at v2 v3
  have e2 : ((k + 1 : Nat) : Int) * errE = k * errE + (2 ^ 2378 + 2 ^ 2382) := by
    rw [Int.natCast_add, Int.add_mul, ← errE_eq]
    exact congrArg _ (Int.one_mul errE)
  refine ⟨v, v1, ?_, ?_⟩ <;> rw [e2] <;> generalize (2 : Int) ^ 2382 = z at * <;> generalize (2 : Int) ^ 2378 = u at * <;> omega

theorem spec_bd {ph : Nat → Nat → Int} {n m : Nat} {g : Nat → Int} (hp : ∀ j, j < n → -(2 ^ 2398 + 2 ^ 2370) ≤ ph n j ∧ ph n j ≤ 2 ^ 2398 + 2 ^ 2370) (h1 : 1 ≤ n) (hg : ∀ i, -16 ≤ g i ∧ g i ≤ 16) (k : Nat) (hk : k ≤ 10) : -(11 * 2 ^ 2403) ≤ specZ ph n m g k ∧ specZ ph n m g k ≤ 11 * 2 ^ 2403 := by
  have h := sumN_bd (F := fun i => ph n (i * m % n) * g i) (B := (2 ^ 2398 + 2 ^ 2370) * ((16 : Nat) : Int)) k (fun i _ => by
    obtain ⟨p1, p2⟩ := hp (i * m % n) (Nat.mod_lt _ (by omega))
    exact mul_bd (by have := ipow_pos 2398; have := ipow_pos 2370; omega) p1 p2 (hg i).1 (hg i).2)
  have hB : (10 : Int) * ((2 ^ 2398 + 2 ^ 2370) * ((16 : Nat) : Int)) ≤ 11 * 2 ^ 2403 := by decide +kernel
  have hB0 : (0 : Int) ≤ (2 ^ 2398 + 2 ^ 2370) * ((16 : Nat) : Int) := by decide +kernel
  have hk2 : (k : Int) * ((2 ^ 2398 + 2 ^ 2370) * ((16 : Nat) : Int)) ≤ 10 * ((2 ^ 2398 + 2 ^ 2370) * ((16 : Nat) : Int)) := Int.mul_le_mul_of_nonneg_right (by omega) hB0
  unfold specZ
  omega

/-- a record, in quarters -/
structure Qr (l : List (Option Nat)) (n : Nat) (g : Nat → Int) : Prop where
  len : l.length = n
  val : ∀ i, i < n → ∃ x, l[i]? = some x ∧ valf .f32 x = some (g i * 2 ^ 2398)
  bd : ∀ i, -16 ≤ g i ∧ g i ≤ 16

/-- what a spectrum's entry is worth -/
def SpecV (n m : Nat) (g : Nat → Int) (z : Option Nat × Option Nat) : Prop :=
  (∃ a, valf .f32 z.1 = some a ∧ specZ (phR true) n m g n - n * errE ≤ a ∧ a ≤ specZ (phR true) n m g n + n * errE) ∧
  ∃ b, valf .f32 z.2 = some b ∧ specZ (phI true) n m g n - n * errE ≤ b ∧ b ≤ specZ (phI true) n m g n + n * errE

theorem zero32' : valf .f32 (some 0) = some 0 := by decide +kernel

theorem spectrum_ok {l : List (Option Nat)} {n : Nat} {g : Nat → Int} (h : Qr l n g) (h1 : 1 ≤ n) (h2 : n ≤ 10) : ∃ L : List (Option Nat × Option Nat), impl_SpectrumOf l = some (L, true) ∧ L.length = n ∧ ∀ m, m < n → ∃ z, L[m]? = some z ∧ SpecV n m g z := by
  have inner : ∀ m, m < n → ∃ z, loopF (fun (s : ((Option Nat × Option Nat) × Int)) => impl_SpectrumOf.s1 l (m : Int) s.1 s.2) ((some 0, some 0), 0) = some (z, (n : Int), false) ∧ SpecV n m g z := by
    intro m hm
    have A := loop_ex (S := Option Nat × Option Nat) (step := fun (s : ((Option Nat × Option Nat) × Int)) => impl_SpectrumOf.s1 l (m : Int) s.1 s.2) (fun s k => (s, (k : Int)))
      (fun k s => (∃ a, valf .f32 s.1 = some a ∧ specZ (phR true) n m g k - k * errE ≤ a ∧ a ≤ specZ (phR true) n m g k + k * errE) ∧ ∃ b, valf .f32 s.2 = some b ∧ specZ (phI true) n m g k - k * errE ≤ b ∧ b ≤ specZ (phI true) n m g k + k * errE) n (fun s => (s, (n : Int), false)) (some 0, some 0)
      ⟨⟨0, zero32', by simp [specZ, sumN], by simp [specZ, sumN]⟩, 0, zero32', by simp [specZ, sumN], by simp [specZ, sumN]⟩ (fun k s hk hI => by
        obtain ⟨⟨a, va, a1, a2⟩, b, vb, b1, b2⟩ := hI
        obtain ⟨x, hx, vx⟩ := h.val k hk
        have hj : k * m % n < n := Nat.mod_lt _ (by omega)
        obtain ⟨p, hp, p1, p2, r1, r2, i1, i2⟩ := ph_has true h1 h2 hj
        have hkm : k * m ≤ 100 := Nat.le_trans (Nat.mul_le_mul (show k ≤ 10 by omega) (show m ≤ 10 by omega)) (by decide)
        obtain ⟨t1, u1, e1, e2⟩ := term_val p1 vx r1 r2 (h.bd k).1 (h.bd k).2
        obtain ⟨t2, u2, f1, f2⟩ := term_val p2 vx i1 i2 (h.bd k).1 (h.bd k).2
        have s1 : specZ (phR true) n m g (k + 1) = specZ (phR true) n m g k + phR true n (k * m % n) * g k := rfl
        have s2 : specZ (phI true) n m g (k + 1) = specZ (phI true) n m g k + phI true n (k * m % n) * g k := rfl
        have hb1 := spec_bd (ph := phR true) (n := n) (m := m) (g := g) (fun j hj => (ph_has true h1 h2 hj).elim fun _ q => ⟨q.2.2.2.1, q.2.2.2.2.1⟩) h1 h.bd (k + 1) (by omega)
        have hb2 := spec_bd (ph := phI true) (n := n) (m := m) (g := g) (fun j hj => (ph_has true h1 h2 hj).elim fun _ q => ⟨q.2.2.2.2.2.1, q.2.2.2.2.2.2⟩) h1 h.bd (k + 1) (by omega)
        rw [s1] at hb1
        rw [s2] at hb2
        obtain ⟨v1, w1, x1, x2⟩ := step_val (show k ≤ 10 by omega) va u1 a1 a2 e1 e2 hb1.1 hb1.2
        obtain ⟨v2, w2, y1, y2⟩ := step_val (show k ≤ 10 by omega) vb u2 b1 b2 f1 f2 hb2.1 hb2.2
        refine ⟨(fop .add .f32 s.1 (fop .mul .f32 p.1 x), fop .add .f32 s.2 (fop .mul .f32 p.2 x)), ?_, ⟨v1, w1, by rw [s1]; exact x1, by rw [s1]; exact x2⟩, v2, w2, by rw [s2]; exact y1, by rw [s2]; exact y2⟩
        show impl_SpectrumOf.s1 l (m : Int) s (k : Int) = _
        unfold impl_SpectrumOf.s1 impl_share impl_ScaleComplex impl_add
        have hn0 : ¬ ((n : Int) = 0) := by omega
        have hw : IntKind.wrap .i64 ((k : Int) * (m : Int)) = ((k * m : Nat) : Int) := by
          rw [← Int.natCast_mul]; exact wrap_small (by omega) (by omega)
        have ht : Int.tmod ((k * m : Nat) : Int) (n : Int) = ((k * m % n : Nat) : Int) := rfl
        rw [if_pos (by simp [h.len]; omega), idx_nat, hx, h.len, if_neg hn0, hw, ht]
        have hp' : impl_PhasorOf (fneg .f64 (fop .quo .f64 (fofi .f64 ((k * m % n : Nat) : Int)) (fofi .f64 (n : Int)))) = some p := by simpa using hp
        simp only [some_bind', hp', one_more (show k ≤ 1000000000 by omega)]) (fun s hI => by
        show impl_SpectrumOf.s1 l (m : Int) s (n : Int) = _
        unfold impl_SpectrumOf.s1
        rw [if_neg (by simp [h.len])]
        simp [h.len])
    obtain ⟨z, A1, A2⟩ := A
    exact ⟨z, A1, A2⟩
  have B := loop_ex (S := List (Option Nat × Option Nat)) (step := fun (s : ((List ((Option Nat × Option Nat))) × Int)) => impl_SpectrumOf.s0 l s.1 s.2) (fun s k => (s, (k : Int))) (fun k s => s.length = k ∧ ∀ m, m < k → ∃ z, s[m]? = some z ∧ SpecV n m g z) n (fun s => ((n : Int), false, s)) [] ⟨rfl, fun m hm => by omega⟩ (fun k s hk hI => by
    obtain ⟨z, z1, z2⟩ := inner k hk
    refine ⟨s ++ [z], ?_, by simp [hI.1], fun m hm => ?_⟩
    · show impl_SpectrumOf.s0 l s (k : Int) = _
      unfold impl_SpectrumOf.s0
      rw [if_pos (by simp [h.len]; omega), z1, some_bind']
      simp only
      rw [if_pos (by simp; omega), one_more (by omega)]
    · by_cases hmk : m = k
      · subst hmk
        exact ⟨z, by rw [List.getElem?_append_right (by omega), hI.1]; simp, z2⟩
      · rw [List.getElem?_append_left (by omega)]
        exact hI.2 m (by omega)) (fun s hI => by
    show impl_SpectrumOf.s0 l s (n : Int) = _
    unfold impl_SpectrumOf.s0
    rw [if_neg (by simp [h.len])]
    simp [h.len])
  obtain ⟨L, B1, B2, B3⟩ := B
  refine ⟨L, ?_, B2, B3⟩
  unfold impl_SpectrumOf impl_isRecord_float32 impl_within
  have c1 : (if decide ((l.length : Int) ≥ 1) = true then some (decide ((l.length : Int) ≤ 64)) else some false) = some true := by
    rw [if_pos (by rw [h.len]; simp; omega), h.len]; simp; omega
  have B1' : loopF (fun (s : ((List ((Option Nat × Option Nat))) × Int)) => impl_SpectrumOf.s0 l s.1 s.2) (([] : List ((Option Nat × Option Nat))), 0) = _ := B1
  rw [c1]
  simp only [some_bind', Bool.not_true, Bool.false_eq_true, if_false, B1']

/-- how far two points are apart -/
theorem apart_ok {u v : Option Nat × Option Nat} {a b c d : Int} (h1 : valf .f32 u.1 = some a) (h2 : valf .f32 v.1 = some b) (h3 : valf .f32 u.2 = some c) (h4 : valf .f32 v.2 = some d)
    (d1 : -(2 ^ 2388) ≤ a - b) (d2 : a - b ≤ 2 ^ 2388) (d3 : -(2 ^ 2388) ≤ c - d) (d4 : c - d ≤ 2 ^ 2388) : ∃ y r, laws_r8Apart u v = some y ∧ valf .f64 y = some r ∧ r ≤ 2 ^ 2389 := by
  have eN : fbits1 .f32 + 2364 = 2388 := by rw [N32]
  obtain ⟨x, x1, _, _, _, x2, x3⟩ := valf.sub (k := .f32) (Q := 2364) h1 h2 (by rw [L32]; decide) (by decide) (by rw [eN]; exact d1) (by rw [eN]; exact d2)
  obtain ⟨y, y1, _, _, _, y2, y3⟩ := valf.sub (k := .f32) (Q := 2364) h3 h4 (by rw [L32]; decide) (by decide) (by rw [eN]; exact d3) (by rw [eN]; exact d4)
  rw [eN] at x2 x3 y2 y3
  have sq : ∀ {z : Option Nat} {r : Int}, valf .f32 z = some r → -(2 ^ 2388) ≤ r → r ≤ 2 ^ 2388 → ∃ p, valf .f64 (fop .mul .f64 (wid z) (wid z)) = some p ∧ -(2 ^ 2376) ≤ p ∧ p ≤ 2 ^ 2376 := by
    intro z r hz r1 r2
    obtain ⟨w, hw⟩ := mul_unit (valf.wid hz) (valf.wid hz)
    have hr : r * r ≤ 2 ^ 2388 * 2 ^ 2388 := sq_le_pow r1 r2
    have hr0 : 0 ≤ r * r := sq_nonneg r
    have e : (2 : Int) ^ 2388 * 2 ^ 2388 = 2 ^ 2376 * 2 ^ UN := by rw [← Int.pow_add, ← Int.pow_add]; rfl
    rw [e, ← hw] at hr
    have hUN := ipow_pos UN
    have w2 : w ≤ 2 ^ 2376 := Int.le_of_mul_le_mul_right hr hUN
    have w1 : 0 ≤ w := by
      refine Int.le_of_mul_le_mul_right (a := 2 ^ UN) ?_ hUN
      rw [Int.zero_mul, hw]; exact hr0
    have e2 : fbits1 .f64 + 2323 = 2376 := by rw [N64]
    have hp := ipow_pos 2376
    obtain ⟨p, p1, _, _, _, p2, p3⟩ := valf.mul (k := .f64) (Q := 2323) (valf.wid hz) (valf.wid hz) (by rw [L64]; decide) (by decide) hw (by rw [e2]; omega) (by rw [e2]; exact w2)
    rw [e2] at p2 p3
    exact ⟨p, p1, p2, p3⟩
  obtain ⟨p, p1, p2, p3⟩ := sq x1 x2 x3
  obtain ⟨q, q1, q2, q3⟩ := sq y1 y2 y3
  have e3 : fbits1 .f64 + 2324 = 2377 := by rw [N64]
  have e4 : (2 : Int) ^ 2377 = 2 * 2 ^ 2376 := by decide +kernel
  obtain ⟨t, t1, _, _, _, t2, t3⟩ := valf.add (k := .f64) (Q := 2324) p1 q1 (by rw [L64]; decide) (by decide) (by rw [e3, e4]; omega) (by rw [e3, e4]; omega)
  rw [e3] at t2 t3
  have e5 : (2 : Int) ^ 2377 < 2 ^ (2 * 2389 - 2400) := by decide +kernel
  obtain ⟨r, r1, r2, r3⟩ := valf.sqrt t1 (add_nn (sq_nn _) (sq_nn _)) 2389 (by decide) (by decide) (by omega)
  have hp := ipow_pos 2389
  obtain ⟨y', r', k1, k2, k3⟩ := valf.fcv (Q := 2365) r1 (by decide) (by decide) (by show -(2 ^ 2389) ≤ r; omega) (by show r ≤ 2 ^ 2389; exact r3)
  refine ⟨wid y', r', ?_, valf.wid k2, k3.2.2.2.2⟩
  unfold laws_r8Apart impl_LongOf impl_power impl_parts math_Sqrt
  simp only [some_bind', cop, k1]
end Go.H
