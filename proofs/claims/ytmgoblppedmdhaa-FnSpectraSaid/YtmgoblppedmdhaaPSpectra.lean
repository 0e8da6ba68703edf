/- The law of spectra. -/
import Derived.Test.YtmgoblppedmdhaaPSpP
import Derived.Test.YtmgoblppedmdhaaPSpS
import Derived.Test.YtmgoblppedmdhaaPSpA
set_option linter.unusedVariables false
namespace Go.H
open Go Ieee

theorem e2388 : (2 : Int) ^ 2388 = 2199023255552 * TT := by unfold TT; decide +kernel
theorem e2389 : (2 : Int) ^ 2389 = 4398046511104 * TT := by unfold TT; decide +kernel
theorem e2396 : (2 : Int) ^ 2396 = 562949953421312 * TT := by unfold TT; decide +kernel
theorem zero_f64 : valf .f64 (some 0) = some 0 := by decide +kernel

theorem milli2 : ∃ K, valf .f64 (some 4562254508917369340) = some K ∧ 8796093022208 * TT < K := by
  have h : (match valf .f64 (some 4562254508917369340) with | some K => decide ((2 : Int) ^ 2390 < K) | none => false) = true := by decide +kernel
  rw [← e2390]
  cases hK : valf .f64 (some 4562254508917369340) with
  | none => rw [hK] at h; cases h
  | some K => rw [hK] at h; exact ⟨K, rfl, of_decide_eq_true h⟩
theorem centi : ∃ K, valf .f64 (some 4576918229304087675) = some K ∧ 90000000000000 * TT < K := by
  have h : (match valf .f64 (some 4576918229304087675) with | some K => decide (90000000000000 * (2 : Int) ^ 2347 < K) | none => false) = true := by decide +kernel
  cases hK : valf .f64 (some 4576918229304087675) with
  | none => rw [hK] at h; cases h
  | some K => rw [hK] at h; exact ⟨K, rfl, of_decide_eq_true h⟩

/-- the greater of two numbers is one of them -/
theorem valf.fmax {k : FloatKind} {x y : Option Nat} {a b : Int} (hx : valf k x = some a) (hy : valf k y = some b) : ∃ v, valf k (Go.H.fmax k x y) = some v ∧ (v = a ∨ v = b) := by
  have ho := valf.order hx hy
  cases x with
  | none => cases hx
  | some c => cases y with
    | none => cases hy
    | some d =>
      have ho' : k.format.order c d = some (compare a b) := ho
      have e : Go.H.fmax k (some c) (some d) = match k.format.order c d with
        | none => none
        | some .lt => some d
        | some .gt => some c
        | some .eq => some (if (k.decode c).neg then d else c) := rfl
      rw [e, ho']
      cases compare a b with
      | lt => exact ⟨b, hy, .inr rfl⟩
      | gt => exact ⟨a, hx, .inl rfl⟩
      | eq =>
        by_cases hn : (k.decode c).neg = true
        · simp only [hn, if_true]; exact ⟨b, hy, .inr rfl⟩
        · simp only [hn]; exact ⟨a, hx, .inl rfl⟩

/-- a gap that is told -/
theorem gap_v {x y : Option Nat} {a b D : Int} (hx : valf .f64 x = some a) (hy : valf .f64 y = some b) (hD : D ≤ 9007199254740992 * TT) (d1 : -D ≤ a - b) (d2 : a - b ≤ D) : ∃ z v, laws_r8Gap x y = some z ∧ valf .f64 z = some v ∧ v ≤ D + TT := by
  have hT := TT_pos
  have pK : (2 : Int) ^ (fbits1 .f64 + 2347) = 9007199254740992 * TT := by rw [N64]; exact e2400
  obtain ⟨u, u1, u2, u3, -⟩ := valf.sub hx hy (Q := 2347) (by rw [L64]; decide) (by decide) (by rw [pK]; omega) (by rw [pK]; omega)
  obtain ⟨v, v1, v2, v3, -⟩ := valf.sub hy hx (Q := 2347) (by rw [L64]; decide) (by decide) (by rw [pK]; omega) (by rw [pK]; omega)
  rw [e2347] at u2 u3 v2 v3
  obtain ⟨z, z1, z2⟩ := valf.fmax u1 v1
  exact ⟨_, z, rfl, z1, by omega⟩
theorem gap_ok {x y : Option Nat} {a b : Int} (hx : valf .f64 x = some a) (hy : valf .f64 y = some b) (d1 : -(8000000000000 * TT) ≤ a - b) (d2 : a - b ≤ 8000000000000 * TT) : ∃ z, laws_r8Gap x y = some z ∧ fcmp .gtr .f64 z (some 4562254508917369340) = false := by
  have hT := TT_pos
  obtain ⟨z, v, z1, z2, z3⟩ := gap_v hx hy (by omega) d1 d2
  obtain ⟨K, k1, k2⟩ := milli2
  exact ⟨z, z1, by rw [valf.gtr z2 k1]; exact decide_eq_false (by omega)⟩
theorem gap_ok2 {x y : Option Nat} {a b : Int} (hx : valf .f64 x = some a) (hy : valf .f64 y = some b) (d1 : -(89000000000000 * TT) ≤ a - b) (d2 : a - b ≤ 89000000000000 * TT) : ∃ z, laws_r8Gap x y = some z ∧ fcmp .gtr .f64 z (some 4576918229304087675) = false := by
  have hT := TT_pos
  obtain ⟨z, v, z1, z2, z3⟩ := gap_v hx hy (by omega) d1 d2
  obtain ⟨K, k1, k2⟩ := centi
  exact ⟨z, z1, by rw [valf.gtr z2 k1]; exact decide_eq_false (by omega)⟩

theorem pT_sym : ∀ n : Nat, n < 10 → ∀ i : Nat, i < n + 1 → ∀ k : Nat, k < n + 1 → (pT true (n + 1) (i * (n + 1 - k) % (n + 1))).1 = (pT true (n + 1) (i * k % (n + 1))).1 ∧ (pT true (n + 1) (i * (n + 1 - k) % (n + 1))).2 = -(pT true (n + 1) (i * k % (n + 1))).2 := by decide +kernel

theorem z_sym {n k : Nat} {g : Nat → Int} (h1 : 1 ≤ n) (h2 : n ≤ 10) (hk : k < n) : zR n (n - k) g n = zR n k g n ∧ zI n (n - k) g n = -zI n k g n := by
  have hp : ∀ i, i < n → (pT true n (i * (n - k) % n)).1 = (pT true n (i * k % n)).1 ∧ (pT true n (i * (n - k) % n)).2 = -(pT true n (i * k % n)).2 := by
    intro i hi
    have := pT_sym (n - 1) (by omega) i (by omega) k (by omega)
    rw [show n - 1 + 1 = n by omega] at this
    exact this
  constructor
  · exact sumN_congr n fun i hi => by rw [(hp i hi).1]
  · have e : -zI n k g n = sumN (fun i => -1 * ((pT true n (i * k % n)).2 * g i)) n := by
      rw [sumN_mul]
      show -zI n k g n = -1 * zI n k g n
      omega
    rw [e]
    exact sumN_congr n fun i hi => by rw [(hp i hi).2, Int.neg_mul]; omega

theorem z_zero {n : Nat} {g : Nat → Int} (h1 : 1 ≤ n) (h2 : n ≤ 10) : zR n 0 g n = 67108864 * sumN g n := by
  rw [← sumN_mul]
  refine sumN_congr n fun i hi => ?_
  have := pT_zero (n - 1) (by omega)
  rw [show n - 1 + 1 = n by omega] at this
  rw [Nat.mul_zero, Nat.zero_mod, this]
  rfl

/-- sums and products that are exact -/
theorem exact_add {x y : Option Nat} {a b : Int} {Q : Nat} (hx : valf .f64 x = some (a * 2 ^ Q)) (hy : valf .f64 y = some (b * 2 ^ Q)) (q1 : 1326 ≤ Q) (q2 : Q ≤ 3000) (h1 : -9007199254740992 ≤ a + b) (h2 : a + b ≤ 9007199254740992) : valf .f64 (fop .add .f64 x y) = some ((a + b) * 2 ^ Q) := by
  have e : (2 : Int) ^ (fbits1 .f64 + Q) = 9007199254740992 * 2 ^ Q := by rw [N64, Int.pow_add]; rfl
  have b1 := Int.mul_le_mul_of_nonneg_right h1 (inonneg Q)
  have b2 := Int.mul_le_mul_of_nonneg_right h2 (inonneg Q)
  rw [Int.neg_mul] at b1
  rw [Int.add_mul] at *
  obtain ⟨v, v1, -, -, v2, -⟩ := valf.add hx hy (Q := Q) (by rw [L64]; omega) q2 (by rw [e]; exact b1) (by rw [e]; exact b2)
  rw [v1, v2 (by rw [← Int.add_mul]; exact Int.dvd_mul_left _ _)]
theorem exact_mul {x y : Option Nat} {a b : Int} {I J Q : Nat} (hx : valf .f64 x = some (a * 2 ^ I)) (hy : valf .f64 y = some (b * 2 ^ J)) (hIJ : I + J = Q + UN) (q1 : 1326 ≤ Q) (q2 : Q ≤ 3000) (h1 : -9007199254740992 ≤ a * b) (h2 : a * b ≤ 9007199254740992) : valf .f64 (fop .mul .f64 x y) = some (a * b * 2 ^ Q) := by
  have e : (2 : Int) ^ (fbits1 .f64 + Q) = 9007199254740992 * 2 ^ Q := by rw [N64, Int.pow_add]; rfl
  have b1 := Int.mul_le_mul_of_nonneg_right h1 (inonneg Q)
  have b2 := Int.mul_le_mul_of_nonneg_right h2 (inonneg Q)
  rw [Int.neg_mul] at b1
  have hw : a * b * 2 ^ Q * 2 ^ UN = a * 2 ^ I * (b * 2 ^ J) := by
    rw [mul4, ← Int.pow_add, hIJ, Int.pow_add, Int.mul_assoc (a * b)]
  obtain ⟨v, v1, -, -, v2, -⟩ := valf.mul hx hy (Q := Q) (by rw [L64]; omega) q2 hw (by rw [e]; exact b1) (by rw [e]; exact b2)
  rw [v1, v2 (Int.dvd_mul_left _ _)]

theorem laws_FnSpectra_true (a0 a1 : List Int) (h0 : ∀ x ∈ a0, 0 ≤ x ∧ x ≤ 255) (h1 : ∀ x ∈ a1, 0 ≤ x ∧ x ≤ 255) : laws_FnSpectra a0 a1 = some true := by
  unfold laws_FnSpectra laws_r8Long
  simp only [some_bind', ite_orB]
  cases (decide ((a0.length : Int) > 48) || decide ((a1.length : Int) > 48)) with
  | true => rfl
  | false =>
    obtain ⟨p, e1, p1, p2⟩ := r8At_ok h1 40 10 (by omega)
    obtain ⟨p, rfl⟩ := Int.eq_ofNat_of_zero_le p1
    have hn : IntKind.wrap .i64 (1 + (p : Int)) = ((1 + p : Nat) : Int) := by rw [wrap_small (by omega) (by omega)]; rfl
    simp only [e1, some_bind', hn]
    obtain ⟨n, rfl⟩ : ∃ n, n = 1 + p := ⟨_, rfl⟩
    have n1 : 1 ≤ 1 + p := by omega
    have n2 : 1 + p ≤ 10 := by omega
    obtain ⟨l, r1, r2, r3⟩ := record_ok h0 (1 + p) (by omega)
    obtain ⟨g, G⟩ := quarters_qs r3
    rw [r2] at G
    have hg : ∀ i, -8 ≤ g i ∧ g i ≤ 8 := fun i => ⟨G.lo i, G.hi i⟩
    obtain ⟨L, s1, s2, s3⟩ := spectrum_t G n1 n2
    have s3' : ∀ m, m < 1 + p → ∃ z, L[m]? = some z ∧ Near (1 + p) z.1 (zR (1 + p) m g (1 + p)) ∧ Near (1 + p) z.2 (zI (1 + p) m g (1 + p)) := fun m hm => by
      obtain ⟨z, z1, z2, z3, _⟩ := s3 m hm
      exact ⟨z, z1, z2, z3⟩
    obtain ⟨b, b1, b2, b3⟩ := list_t n1 n2 hg s2 s3'
    obtain ⟨P, t1, t2, t3⟩ := powers_t n1 n2 hg s2 s3'
    simp only [r1, s1, b1, t1, some_bind', s2, b2, t2, Bool.not_true, Bool.false_eq_true, if_false, bne_self_eq_false]
    have hT := TT_pos
    have hgg : ∀ i, 0 ≤ g i * g i ∧ g i * g i ≤ 64 := fun i => by
      have h := ab (hg i).1 (hg i).2 (hg i).1 (hg i).2
      refine ⟨?_, by omega⟩
      rcases Int.le_total 0 (g i) with h | h
      · exact Int.mul_nonneg h h
      · have := Int.mul_nonneg (show 0 ≤ -g i by omega) (show 0 ≤ -g i by omega)
        rw [Int.neg_mul_neg] at this
        exact this
    have gs : ∀ k : Nat, -((k : Int) * 8) ≤ sumN g k ∧ sumN g k ≤ (k : Int) * 8 := fun k => sumN_bd k fun i _ => hg i
    have gq : ∀ k : Nat, -((k : Int) * 64) ≤ sumN (fun i => g i * g i) k ∧ sumN (fun i => g i * g i) k ≤ (k : Int) * 64 := fun k => sumN_bd k fun i _ => by have := hgg i; omega
    have A := loop_ex (S := Option Nat × Option Nat × Option Nat) (step := fun (s : (Bool × (Option Nat) × (Option Nat) × (Option Nat) × Int)) => laws_FnSpectra.s0 (p : Int) l (L, true) (b, true) (P, true) s.1 s.2.1 s.2.2.1 s.2.2.2.1 s.2.2.2.2) (fun s k => (false, s.1, s.2.1, s.2.2, (k : Int)))
      (fun k s => valf .f64 s.1 = some (sumN g k * 2 ^ 2398) ∧ valf .f64 s.2.1 = some (sumN (fun i => g i * g i) k * 2 ^ 2396) ∧ ∃ v, valf .f64 s.2.2 = some v ∧ (-((k : Int) * (60620000131072 * TT)) ≤ 8 * v - sumN (fun m => zR (1 + p) m g (1 + p) * zR (1 + p) m g (1 + p) + zI (1 + p) m g (1 + p) * zI (1 + p) m g (1 + p)) k * TT ∧ 8 * v - sumN (fun m => zR (1 + p) m g (1 + p) * zR (1 + p) m g (1 + p) + zI (1 + p) m g (1 + p) * zI (1 + p) m g (1 + p)) k * TT ≤ (k : Int) * (60620000131072 * TT)) ∧ -((k : Int) * (7900000000000008192 * TT)) ≤ v ∧ v ≤ (k : Int) * (7900000000000008192 * TT))
      (1 + p) (fun s => Sum.inl (false, s.1, s.2.1, s.2.2, ((1 + p : Nat) : Int), false)) (some 0, some 0, some 0) ⟨by rw [zero_f64, sumN, Int.zero_mul], by rw [zero_f64, sumN, Int.zero_mul], 0, zero_f64, by simp [sumN], by simp⟩ (fun k s hk hI => by
        obtain ⟨i1, i2, v, i3, ⟨i4, i5⟩, i6, i7⟩ := hI
        obtain ⟨x, x1, x2⟩ := G.val k hk
        obtain ⟨y, w, y1, y2, y3, y4⟩ := b3 k hk
        obtain ⟨q, u, q1, q2, ⟨q3, q4⟩, q5, q6⟩ := t3 k hk
        have xw := valf.wid x2
        have a1 := exact_add i1 xw (by decide) (by decide) (by have := gs k; have := hg k; omega) (by have := gs k; have := hg k; omega)
        have a2 := exact_mul xw xw (Q := 2396) rfl (by decide) (by decide) (by have := hgg k; omega) (by have := hgg k; omega)
        have a3 := exact_add i2 a2 (by decide) (by decide) (by have := gq k; have := hgg k; omega) (by have := gq k; have := hgg k; omega)
        obtain ⟨z, z1, z2⟩ := gap_ok (valf.wid y2) xw (by omega) (by omega)
        have hkT : (k : Int) * (7900000000000008192 * TT) ≤ 9 * (7900000000000008192 * TT) := Int.mul_le_mul_of_nonneg_right (by omega) (by omega)
        have hk1 : ((k + 1 : Nat) : Int) * (7900000000000008192 * TT) = (k : Int) * (7900000000000008192 * TT) + 7900000000000008192 * TT := by rw [Int.natCast_add, Int.add_mul]; simp
        have hk2 : ((k + 1 : Nat) : Int) * (60620000131072 * TT) = (k : Int) * (60620000131072 * TT) + 60620000131072 * TT := by rw [Int.natCast_add, Int.add_mul]; simp
        have pB : (2 : Int) ^ (fbits1 .f64 + 2361) = 147573952589676412928 * TT := by rw [N64]; exact e2414
        obtain ⟨v', v1, v2, v3, -⟩ := valf.add i3 (valf.wid q2) (Q := 2361) (by rw [L64]; decide) (by decide) (by rw [pB]; omega) (by rw [pB]; omega)
        rw [e2361] at v2 v3
        have conj : (if decide ((k : Int) > 0) = true then (idx L (IntKind.wrap .i64 (((1 + p : Nat) : Int) - (k : Int)))).bind fun x27 => (idx L (k : Int)).bind fun x28 => (impl_ConjugateOf x28).bind fun x29 => (laws_r8Apart x27 x29).bind fun x30 => some (fcmp .gtr .f64 x30 (some 4562254508917369340)) else some false) = some false := by
          by_cases hk0 : k = 0
          · subst hk0; rfl
          · have hw : IntKind.wrap .i64 (((1 + p : Nat) : Int) - (k : Int)) = ((1 + p - k : Nat) : Int) := by rw [wrap_small (by omega) (by omega)]; omega
            obtain ⟨z, c1, c2, c3, _⟩ := s3 (1 + p - k) (by omega)
            obtain ⟨o, d1, d2, d3, d4⟩ := s3 k hk
            have zb := fun m => z_bd (m := m) n1 n2 hg (1 + p)
            have za := zb (1 + p - k)
            have zc := zb k
            obtain ⟨f1, f2⟩ := z_sym (g := g) n1 n2 hk
            rw [f1] at c2
            rw [f2] at c3
            obtain ⟨m1, ma, mb, mc, -⟩ := near_abs n2 c2 (by omega) (by omega)
            obtain ⟨m2, na, nb, nc, -⟩ := near_abs n2 c3 (by omega) (by omega)
            obtain ⟨m3, oa, ob, oc, -⟩ := near_abs n2 d2 (by omega) (by omega)
            obtain ⟨m4, pa, pb, pc, -⟩ := near_abs n2 d3 (by omega) (by omega)
            have pn := neg_val d4 pa
            rw [Int.neg_mul] at nb nc
            obtain ⟨y, r, k1, k2, k3⟩ := apart_ok (u := z) (v := (o.1, fneg .f32 o.2)) ma oa na pn (by rw [e2388]; omega) (by rw [e2388]; omega) (by rw [e2388]; omega) (by rw [e2388]; omega)
            rw [e2389] at k3
            obtain ⟨K, l1, l2⟩ := milli2
            rw [if_pos (decide_eq_true (by omega)), hw, idx_nat, idx_nat, c1, d1]
            unfold impl_ConjugateOf
            simp only [some_bind', k1]
            rw [valf.gtr k2 l1, decide_eq_false (by omega)]
        refine ⟨(fop .add .f64 s.1 (wid x), fop .add .f64 s.2.1 (fop .mul .f64 (wid x) (wid x)), fop .add .f64 s.2.2 (wid q)), ?_, a1, a3, v', v1, ⟨?_, ?_⟩, by rw [hk1]; omega, by rw [hk1]; omega⟩
        · show laws_FnSpectra.s0 (p : Int) l (L, true) (b, true) (P, true) false s.1 s.2.1 s.2.2 (k : Int) = _
          unfold laws_FnSpectra.s0
          simp only [hn]
          rw [if_pos (decide_eq_true (Int.ofNat_lt.2 hk)), conj]
          simp only [idx_nat, x1, y1, q1, some_bind', z1, z2, Bool.false_eq_true, if_false, one_more (show k ≤ 1000000000 by omega)]
        · rw [sumN, Int.add_mul, hk2]
          generalize sumN (fun m => zR (1 + p) m g (1 + p) * zR (1 + p) m g (1 + p) + zI (1 + p) m g (1 + p) * zI (1 + p) m g (1 + p)) k * TT = zz at *
          generalize (k : Int) * (60620000131072 * TT) = kk at *
          omega
        · rw [sumN, Int.add_mul, hk2]
          generalize sumN (fun m => zR (1 + p) m g (1 + p) * zR (1 + p) m g (1 + p) + zI (1 + p) m g (1 + p) * zI (1 + p) m g (1 + p)) k * TT = zz at *
          generalize (k : Int) * (60620000131072 * TT) = kk at *
          omega) (fun s hI => by
        show laws_FnSpectra.s0 (p : Int) l (L, true) (b, true) (P, true) false s.1 s.2.1 s.2.2 ((1 + p : Nat) : Int) = _
        unfold laws_FnSpectra.s0
        simp only [hn]
        rw [if_neg (by simp)]
        simp)
    obtain ⟨s, A1, i1, i2, v, i3, ⟨i4, i5⟩, -⟩ := A
    simp only [Int.ofNat_zero] at A1
    rw [A1]
    simp only [some_bind']
    -- the first of the spectrum
    obtain ⟨z0, c1, c2, c3, _⟩ := s3 0 (by omega)
    have zb := z_bd (m := 0) n1 n2 hg (1 + p)
    obtain ⟨m1, ma, mb, mc, -⟩ := near_abs n2 c2 (by omega) (by omega)
    have ez : ∀ G : Int, 67108864 * G * (33554432 * TT) = 2251799813685248 * (G * TT) := fun G => by
      rw [mul4]; rfl
    have ei : ∀ G : Int, G * 2 ^ 2398 = 2251799813685248 * (G * TT) := fun G => by rw [e2398, Int.mul_left_comm]
    rw [z_zero n1 n2, ez] at mb mc
    rw [ei] at i1
    obtain ⟨z, z1, z2⟩ := gap_ok (valf.wid ma) i1 (by omega) (by omega)
    -- the powers
    have ps := power_sum n1 n2 hg
    have q0 := gq (1 + p)
    have qn := ab (a := sumN (fun i => g i * g i) (1 + p)) (A := 640) (b := ((1 + p : Nat) : Int)) (B := 10) (by omega) (by omega) (by omega) (by omega)
    have a4 := exact_mul i2 (fofi64 (1 + p) (by omega)) (Q := 2396) rfl (by decide) (by decide) (by omega) (by omega)
    have w1 := Int.mul_le_mul_of_nonneg_right ps.1 (show 0 ≤ TT by omega)
    have w2 := Int.mul_le_mul_of_nonneg_right ps.2 (show 0 ≤ TT by omega)
    have eq : sumN (fun i => g i * g i) (1 + p) * ((1 + p : Nat) : Int) * 2 ^ 2396 = 562949953421312 * (sumN (fun i => g i * g i) (1 + p) * ((1 + p : Nat) : Int) * TT) := by rw [e2396, Int.mul_left_comm]
    have ew : ((1 + p : Nat) : Int) * 4503599627370496 * sumN (fun i => g i * g i) (1 + p) * TT = 4503599627370496 * (sumN (fun i => g i * g i) (1 + p) * ((1 + p : Nat) : Int) * TT) := by
      generalize TT = T
      ac_rfl
    rw [Int.sub_mul, ew] at w1 w2
    rw [eq] at a4
    have hkn : ((1 + p : Nat) : Int) * (60620000131072 * TT) ≤ 10 * (60620000131072 * TT) := Int.mul_le_mul_of_nonneg_right (by omega) (by omega)
    generalize hu : sumN (fun i => g i * g i) (1 + p) * ((1 + p : Nat) : Int) * TT = uu at *
    generalize hz : sumN (fun m => zR (1 + p) m g (1 + p) * zR (1 + p) m g (1 + p) + zI (1 + p) m g (1 + p) * zI (1 + p) m g (1 + p)) (1 + p) * TT = zz at *
    generalize hk : ((1 + p : Nat) : Int) * (60620000131072 * TT) = kk at *
    obtain ⟨y, y1, y2⟩ := gap_ok2 i3 a4 (by omega) (by omega)
    -- the strongest
    have tv : ∀ m, m < 1 + p → ∃ q, P[m]? = some q ∧ valf .f32 q = some ((valf .f32 (P[m]?.getD none)).getD 0) := fun m hm => by
      obtain ⟨q, u, q1, q2, _⟩ := t3 m hm
      exact ⟨q, q1, by rw [q1]; simp only [Option.getD_some]; rw [q2]; rfl⟩
    obtain ⟨j, k1, k2, k3⟩ := strong_ok t1 (v := fun m => ((valf .f32 (P[m]?.getD none)).getD 0)) ⟨t2, tv⟩ n1 n2
    have B := loop_ex (S := Unit) (step := fun (s : (Bool × Int)) => laws_FnSpectra.s1 (p : Int) (P, true) ([((j : Nat) : Int)], true) s.1 s.2) (fun _ k => (false, (k : Int))) (fun _ _ => True) (1 + p) (fun _ => Sum.inl (false, ((1 + p : Nat) : Int), false)) () trivial (fun k s hk _ => by
      refine ⟨(), ?_, trivial⟩
      obtain ⟨q, q1, q2⟩ := tv k hk
      obtain ⟨r, o1, o2⟩ := tv j k2
      have hle := k3 k hk
      show laws_FnSpectra.s1 (p : Int) (P, true) ([((j : Nat) : Int)], true) false (k : Int) = _
      unfold laws_FnSpectra.s1
      simp only [hn]
      have e0 : idx [((j : Nat) : Int)] 0 = some ((j : Nat) : Int) := rfl
      rw [if_pos (decide_eq_true (Int.ofNat_lt.2 hk))]
      simp only [idx_nat, e0, q1, o1, some_bind']
      rw [valf.gtr q2 o2, decide_eq_false (by omega)]
      simp only [Bool.false_eq_true, if_false, one_more (show k ≤ 1000000000 by omega)]) (fun s _ => by
      show laws_FnSpectra.s1 (p : Int) (P, true) ([((j : Nat) : Int)], true) false ((1 + p : Nat) : Int) = _
      unfold laws_FnSpectra.s1
      simp only [hn]
      rw [if_neg (by simp)]
      simp)
    obtain ⟨_, B1, _⟩ := B
    simp only [Int.ofNat_zero] at B1
    have c0 : idx L 0 = some z0 := by
      have := idx_nat L 0
      rw [c1] at this
      exact this
    have cl : (([((j : Nat) : Int)].length : Int) != 1) = false := rfl
    simp only [c0, some_bind', z1, z2, y1, y2, Bool.false_eq_true, if_false, k1, Bool.not_true, cl]
    rw [B1]
    rfl
end Go.H
