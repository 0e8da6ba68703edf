/- Spectra by the table of points: by how much rounding turns them. -/
import Derived.Test.YtmgoblppedmdhaaGSpec
import Derived.Test.YtmgoblppedmdhaaPPhT
import Derived.Test.YtmgoblppedmdhaaPFold
import Derived.Test.YtmgoblppedmdhaaPLoop
import Derived.Test.YtmgoblppedmdhaaFV6
import Derived.Test.YtmgoblppedmdhaaLibI
import Derived.Test.YtmgoblppedmdhaaPQs
set_option linter.unusedVariables false
namespace Go.H
open Go Ieee

theorem f2376 : (2 : Int) ^ 2376 = 536870912 * TT := e2376
theorem e2372 : (2 : Int) ^ 2372 = 33554432 * TT := by unfold TT; decide +kernel
theorem e2381 : (2 : Int) ^ 2381 = 17179869184 * TT := by unfold TT; decide +kernel
theorem e2405 : (2 : Int) ^ 2405 = 288230376151711744 * TT := by unfold TT; decide +kernel
theorem L32 : FloatKind.f32.format.leastPlace = -149 := by decide
theorem N32 : fbits1 .f32 = 24 := by decide
theorem L64 : FloatKind.f64.format.leastPlace = -1074 := by decide
theorem N64 : fbits1 .f64 = 53 := by decide

/-- one term: a part of a point times a number in quarters -/
theorem term_t {c x : Option Nat} {d q : Int} (hc : valf .f32 c = some (d * 2 ^ 2374)) (hx : valf .f32 x = some (q * 2 ^ 2398)) (d1 : -(2 ^ 26) ≤ d) (d2 : d ≤ 2 ^ 26) (q1 : -8 ≤ q) (q2 : q ≤ 8) :
    ∃ v, valf .f32 (fop .mul .f32 c x) = some v ∧ -(536870912 * TT) ≤ v - d * q * (33554432 * TT) ∧ v - d * q * (33554432 * TT) ≤ 536870912 * TT := by
  have pw : (2 : Int) ^ 2372 * 2 ^ UN = 2 ^ 2374 * 2 ^ 2398 := by unfold UN; decide +kernel
  have hw : d * q * 2 ^ 2372 * 2 ^ UN = d * 2 ^ 2374 * (q * 2 ^ 2398) := by
    rw [Int.mul_assoc (d * q), pw, mul4]
  have hT := TT_pos
  obtain ⟨b1, b2⟩ := ab d1 d2 q1 q2
  have hp := inonneg 2372
  have h1 := Int.mul_le_mul_of_nonneg_right b1 hp
  have h2 := Int.mul_le_mul_of_nonneg_right b2 hp
  rw [Int.neg_mul] at h1
  have hB : (2 : Int) ^ 26 * 8 * 2 ^ 2372 = 2 ^ (fbits1 .f32 + 2377) := by rw [N32]; decide +kernel
  rw [hB] at h1 h2
  obtain ⟨v, v1, v2, v3, -⟩ := valf.mul (k := .f32) (Q := 2377) hc hx (by rw [L32]; decide) (by decide) hw h1 h2
  rw [e2377, e2372] at v2 v3
  exact ⟨v, v1, by omega, by omega⟩

/-- a sum and one more term -/
theorem step_t {s t : Option Nat} {a b S T : Int} {k : Nat} (hk : k < 10) (hs : valf .f32 s = some a) (ht : valf .f32 t = some b) (a1 : -((k : Int) * (9126805504 * TT)) ≤ a - S * (33554432 * TT)) (a2 : a - S * (33554432 * TT) ≤ (k : Int) * (9126805504 * TT))
    (b1 : -(536870912 * TT) ≤ b - T * (33554432 * TT)) (b2 : b - T * (33554432 * TT) ≤ 536870912 * TT) (s1 : -((k : Int) * 536870912) ≤ S) (s2 : S ≤ (k : Int) * 536870912) (t1 : -536870912 ≤ T) (t2 : T ≤ 536870912) :
    ∃ v, valf .f32 (fop .add .f32 s t) = some v ∧ -(((k + 1 : Nat) : Int) * (9126805504 * TT)) ≤ v - (S + T) * (33554432 * TT) ∧ v - (S + T) * (33554432 * TT) ≤ ((k + 1 : Nat) : Int) * (9126805504 * TT) := by
  have hT := TT_pos
  have hkT : (k : Int) * (9126805504 * TT) ≤ 9 * (9126805504 * TT) := Int.mul_le_mul_of_nonneg_right (by omega) (by omega)
  have hST : -(5368709120 * (33554432 * TT)) ≤ S * (33554432 * TT) + T * (33554432 * TT) ∧ S * (33554432 * TT) + T * (33554432 * TT) ≤ 5368709120 * (33554432 * TT) := by
    rw [← Int.add_mul]
    have h1 := Int.mul_le_mul_of_nonneg_right (show S + T ≤ 5368709120 by omega) (show 0 ≤ 33554432 * TT by omega)
    have h2 := Int.mul_le_mul_of_nonneg_right (show -5368709120 ≤ S + T by omega) (show 0 ≤ 33554432 * TT by omega)
    rw [Int.neg_mul] at h2
    exact ⟨h2, h1⟩
  have pB : (2 : Int) ^ (fbits1 .f32 + 2381) = 288230376151711744 * TT := by rw [N32]; exact e2405
  rw [Int.add_mul]
  have hk1 : ((k + 1 : Nat) : Int) * (9126805504 * TT) = (k : Int) * (9126805504 * TT) + 9126805504 * TT := by rw [Int.natCast_add, Int.add_mul]; simp
  rw [hk1]
  generalize S * (33554432 * TT) = SS at *
  generalize T * (33554432 * TT) = RR at *
  generalize (k : Int) * (9126805504 * TT) = u at *
  obtain ⟨v, v1, v2, v3, -⟩ := valf.add (k := .f32) (Q := 2381) hs ht (by rw [L32]; decide) (by decide) (by rw [pB]; omega) (by rw [pB]; omega)
  rw [e2381] at v2 v3
  exact ⟨v, v1, by omega, by omega⟩

/-- a spectrum's parts, without rounding, in units of 2^-28 -/
def zR (n m : Nat) (g : Nat → Int) (k : Nat) : Int := sumN (fun i => (pT true n (i * m % n)).1 * g i) k
def zI (n m : Nat) (g : Nat → Int) (k : Nat) : Int := sumN (fun i => (pT true n (i * m % n)).2 * g i) k

theorem pT_b (neg : Bool) {n j : Nat} (h1 : 1 ≤ n) (h2 : n ≤ 10) (hj : j < n) : (-(2 ^ 26) ≤ (pT neg n j).1 ∧ (pT neg n j).1 ≤ 2 ^ 26) ∧ -(2 ^ 26) ≤ (pT neg n j).2 ∧ (pT neg n j).2 ≤ 2 ^ 26 := by
  have := pT_bd neg (n - 1) (by omega) j (by omega)
  rw [show n - 1 + 1 = n by omega] at this
  exact ⟨⟨this.1, this.2.1⟩, this.2.2⟩

theorem z_bd {n m : Nat} {g : Nat → Int} (h1 : 1 ≤ n) (h2 : n ≤ 10) (hg : ∀ i, -8 ≤ g i ∧ g i ≤ 8) (k : Nat) : (-((k : Int) * 536870912) ≤ zR n m g k ∧ zR n m g k ≤ (k : Int) * 536870912) ∧ -((k : Int) * 536870912) ≤ zI n m g k ∧ zI n m g k ≤ (k : Int) * 536870912 := by
  have e : (2 : Int) ^ 26 * 8 = 536870912 := by decide
  constructor
  · refine sumN_bd k fun i _ => ?_
    have := pT_b true h1 h2 (Nat.mod_lt (i * m) h1)
    have := ab this.1.1 this.1.2 (hg i).1 (hg i).2
    rw [e] at this
    exact this
  · refine sumN_bd k fun i _ => ?_
    have := pT_b true h1 h2 (Nat.mod_lt (i * m) h1)
    have := ab this.2.1 this.2.2 (hg i).1 (hg i).2
    rw [e] at this
    exact this

/-- a value, near to one in units of 2^-28 -/
def Near (k : Nat) (x : Option Nat) (S : Int) : Prop := ∃ a, valf .f32 x = some a ∧ -((k : Int) * (9126805504 * TT)) ≤ a - S * (33554432 * TT) ∧ a - S * (33554432 * TT) ≤ (k : Int) * (9126805504 * TT)

/-- a word of 32 bits -/
def Small (x : Option Nat) : Prop := ∃ b, x = some b ∧ b < 2 ^ FloatKind.f32.format.width
theorem small_fop {op : BinOp} {x y : Option Nat} {v : Int} (h : valf .f32 (fop op .f32 x y) = some v) : Small (fop op .f32 x y) := by
  cases x with
  | none => cases h
  | some a => cases y with
    | none => cases h
    | some b =>
      cases hf : floatBits op .f32 a b with
      | none =>
        have e : fop op .f32 (some a) (some b) = none := hf
        rw [e] at h; cases h
      | some r => exact ⟨r, hf, floatBits_lt hf⟩
theorem neg_val {x : Option Nat} {a : Int} (hs : Small x) (h : valf .f32 x = some a) : valf .f32 (fneg .f32 x) = some (-a) := by
  obtain ⟨b, rfl, hb⟩ := hs
  obtain ⟨b', s, m, P, e, r1, rfl, _⟩ := valf_elim h
  cases e
  have r2 := read_neg .f32 hb r1
  rw [← signed_opp]
  exact valf_intro r2

theorem spectrum_t {l : List (Option Nat)} {n : Nat} {g : Nat → Int} (h : Qs l n g) (h1 : 1 ≤ n) (h2 : n ≤ 10) : ∃ L : List (Option Nat × Option Nat), impl_SpectrumOf l = some (L, true) ∧ L.length = n ∧ ∀ m, m < n → ∃ z, L[m]? = some z ∧ Near n z.1 (zR n m g n) ∧ Near n z.2 (zI n m g n) ∧ Small z.2 := by
  have hT := TT_pos
  have hg : ∀ i, -8 ≤ g i ∧ g i ≤ 8 := fun i => ⟨h.lo i, h.hi i⟩
  have e26 : (2 : Int) ^ 26 * 8 = 536870912 := by decide
  have inner : ∀ m, m < n → ∃ z, loopF (fun (s : ((Option Nat × Option Nat) × Int)) => impl_SpectrumOf.s1 l (m : Int) s.1 s.2) ((some 0, some 0), 0) = some (z, (n : Int), false) ∧ Near n z.1 (zR n m g n) ∧ Near n z.2 (zI n m g n) ∧ Small z.2 := by
    intro m hm
    have A := loop_ex (S := Option Nat × Option Nat) (step := fun (s : ((Option Nat × Option Nat) × Int)) => impl_SpectrumOf.s1 l (m : Int) s.1 s.2) (fun s k => (s, (k : Int)))
      (fun k s => Near k s.1 (zR n m g k) ∧ Near k s.2 (zI n m g k) ∧ Small s.2) n (fun s => (s, (n : Int), false)) (some 0, some 0)
      ⟨⟨0, zero32, by simp [zR, sumN], by simp [zR, sumN]⟩, ⟨0, zero32, by simp [zI, sumN], by simp [zI, sumN]⟩, 0, rfl, by decide⟩ (fun k s hk hI => by
        obtain ⟨⟨a, va, a1, a2⟩, ⟨b, vb, b1, b2⟩, _⟩ := hI
        obtain ⟨x, hx, vx⟩ := h.val k hk
        have hj : k * m % n < n := Nat.mod_lt _ (by omega)
        obtain ⟨p, hp, p1, p2⟩ := pT_has true h1 h2 hj
        obtain ⟨⟨r1, r2⟩, i1, i2⟩ := pT_b true h1 h2 hj
        have hkm : k * m ≤ 100 := Nat.le_trans (Nat.mul_le_mul (show k ≤ 10 by omega) (show m ≤ 10 by omega)) (by decide)
        obtain ⟨t1, u1, e1, e2⟩ := term_t p1 vx r1 r2 (hg k).1 (hg k).2
        obtain ⟨t2, u2, f1, f2⟩ := term_t p2 vx i1 i2 (hg k).1 (hg k).2
        have hz := z_bd (m := m) h1 h2 hg k
        have c1 := ab r1 r2 (hg k).1 (hg k).2
        have c2 := ab i1 i2 (hg k).1 (hg k).2
        rw [e26] at c1 c2
        obtain ⟨v1, w1, x1, x2⟩ := step_t (show k < 10 by omega) va u1 a1 a2 e1 e2 hz.1.1 hz.1.2 c1.1 c1.2
        obtain ⟨v2, w2, y1, y2⟩ := step_t (show k < 10 by omega) vb u2 b1 b2 f1 f2 hz.2.1 hz.2.2 c2.1 c2.2
        refine ⟨(fop .add .f32 s.1 (fop .mul .f32 p.1 x), fop .add .f32 s.2 (fop .mul .f32 p.2 x)), ?_, ⟨v1, w1, x1, x2⟩, ⟨v2, w2, y1, y2⟩, small_fop w2⟩
        show impl_SpectrumOf.s1 l (m : Int) s (k : Int) = _
        unfold impl_SpectrumOf.s1 impl_share impl_ScaleComplex impl_add
        have hn0 : ¬ ((n : Int) = 0) := by omega
        have hw : IntKind.wrap .i64 ((k : Int) * (m : Int)) = ((k * m : Nat) : Int) := by
          rw [← Int.natCast_mul]; exact wrap_small (by omega) (by omega)
        have ht : Int.tmod ((k * m : Nat) : Int) (n : Int) = ((k * m % n : Nat) : Int) := rfl
        rw [if_pos (by simp [h.len]; omega), idx_nat, hx, h.len, if_neg hn0, hw, ht]
        have hp' : impl_PhasorOf (fneg .f64 (fop .quo .f64 (fofi .f64 ((k * m % n : Nat) : Int)) (fofi .f64 (n : Int)))) = some p := by simpa using hp
        simp only [some_bind', hp', one_more (show k ≤ 1000000000 by omega)]) (fun s hI => by
        show impl_SpectrumOf.s1 l (m : Int) s (n : Int) = _
        unfold impl_SpectrumOf.s1
        rw [if_neg (by simp [h.len])]
        simp [h.len])
    obtain ⟨z, A1, A2⟩ := A
    exact ⟨z, A1, A2⟩
  have B := loop_ex (S := List (Option Nat × Option Nat)) (step := fun (s : ((List ((Option Nat × Option Nat))) × Int)) => impl_SpectrumOf.s0 l s.1 s.2) (fun s k => (s, (k : Int))) (fun k s => s.length = k ∧ ∀ m, m < k → ∃ z, s[m]? = some z ∧ Near n z.1 (zR n m g n) ∧ Near n z.2 (zI n m g n) ∧ Small z.2) n (fun s => ((n : Int), false, s)) [] ⟨rfl, fun m hm => by omega⟩ (fun k s hk hI => by
    obtain ⟨z, z1, z2⟩ := inner k hk
    refine ⟨s ++ [z], ?_, by simp [hI.1], fun m hm => ?_⟩
    · show impl_SpectrumOf.s0 l s (k : Int) = _
      unfold impl_SpectrumOf.s0
      rw [if_pos (by simp [h.len]; omega), z1, some_bind']
      simp only
      rw [if_pos (by simp; omega), one_more (by omega)]
    · by_cases hmk : m = k
      · subst hmk
        exact ⟨z, by rw [List.getElem?_append_right (by omega), hI.1]; simp, z2⟩
      · rw [List.getElem?_append_left (by omega)]
        exact hI.2 m (by omega)) (fun s hI => by
    show impl_SpectrumOf.s0 l s (n : Int) = _
    unfold impl_SpectrumOf.s0
    rw [if_neg (by simp [h.len])]
    simp [h.len])
  obtain ⟨L, B1, B2, B3⟩ := B
  refine ⟨L, ?_, B2, B3⟩
  unfold impl_SpectrumOf impl_isRecord_float32 impl_within
  have c1 : (if decide ((l.length : Int) ≥ 1) = true then some (decide ((l.length : Int) ≤ 64)) else some false) = some true := by
    rw [if_pos (by rw [h.len]; simp; omega), h.len]; simp; omega
  have B1' : loopF (fun (s : ((List ((Option Nat × Option Nat))) × Int)) => impl_SpectrumOf.s0 l s.1 s.2) (([] : List ((Option Nat × Option Nat))), 0) = _ := B1
  rw [c1]
  simp only [some_bind', Bool.not_true, Bool.false_eq_true, if_false, B1']
end Go.H
