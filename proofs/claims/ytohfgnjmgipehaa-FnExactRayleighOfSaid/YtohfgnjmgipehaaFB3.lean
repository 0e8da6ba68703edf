/- Widening, roots, numbers against themselves. -/
import Derived.Test.YtohfgnjmgipehaaFB2
set_option linter.unusedVariables false
namespace Go.H
open Go Ieee

/-! ### roots -/
theorem rootFrom_sq (n : Nat) : ∀ (todo root : Nat), root * root ≤ n → Datum.rootFrom n todo root * Datum.rootFrom n todo root ≤ n
  | 0, root, h => h
  | todo + 1, root, h => by
    unfold Datum.rootFrom
    dsimp only
    split
    · rename_i h1; exact rootFrom_sq n todo _ h1
    · exact rootFrom_sq n todo _ h

/-- finite and less than '2 ^ e', or an infinity -/
def BiD (e : Int) : Datum → Prop
  | .number _ m p => m = 0 ∨ (m.log2 : Int) + p < e
  | .infinity _ => True
  | _ => False
def Bi (e : Int) (x : Option Nat) : Prop := ∀ b, x = some b → BiD e (double.read b)

theorem log2_sq {w n : Nat} (hw : w ≠ 0) (h : w * w ≤ n) : 2 * w.log2 ≤ n.log2 := by
  have hn : n ≠ 0 := by
    have := Nat.mul_pos (Nat.pos_of_ne_zero hw) (Nat.pos_of_ne_zero hw)
    omega
  rw [Nat.le_log2 hn, Nat.two_mul, Nat.pow_add]
  exact Nat.le_trans (Nat.mul_le_mul (pow_log2_le hw) (pow_log2_le hw)) h

theorem root_bi {e : Int} {x z : Datum} {digits : Nat} (hx : BiD (2 * e) x) (he : 0 ≤ e) (h : x.root digits = some z) : BiD e z := by
  cases x with
  | nan _ _ => cases h
  | infinity s =>
    cases s
    · cases h; trivial
    · cases h
  | number s m i =>
    unfold Datum.root at h
    dsimp only at h
    split at h
    · rename_i h0
      cases h
      exact .inl h0
    · split at h
      · cases h
      · rename_i hm _
        rcases hx with hx | hx
        · exact absurd hx hm
        cases h
        generalize hmore : 2 * digits - m.log2 + ((i - ((2 * digits - m.log2 : Nat) : Int)) % 2).toNat = more
        have hev : (i - (more : Int)) % 2 = 0 := by omega
        have hsq := rootFrom_sq (m <<< more) ((m <<< more).log2 / 2 + 1) 0 (Nat.zero_le _)
        generalize Datum.rootFrom (m <<< more) ((m <<< more).log2 / 2 + 1) 0 = w at *
        have hbt : ∀ b : Bool, b.toNat ≤ 1 := by decide
        have hb := hbt (w * w != m <<< more)
        generalize (w * w != m <<< more).toNat = c at *
        have hlog : (m <<< more).log2 = m.log2 + more := by
          rw [Nat.shiftLeft_eq]
          apply log2_of
          · rw [Nat.pow_add]; exact Nat.mul_le_mul_right _ (pow_log2_le hm)
          · have : m * 2 ^ more < 2 ^ (m.log2 + 1) * 2 ^ more := Nat.mul_lt_mul_of_pos_right (lt_pow_log2 m) (Nat.two_pow_pos _)
            rw [← Nat.pow_add] at this
            rwa [show m.log2 + more + 1 = m.log2 + 1 + more by omega]
        by_cases hw : w = 0
        · subst hw
          by_cases hc : c = 0
          · exact .inl (by omega)
          · have : c = 1 := by omega
            subst this
            refine .inr ?_
            have : (2 * 0 + 1 : Nat).log2 = 0 := by decide
            rw [this]
            have : 0 ≤ m.log2 := Nat.zero_le _
            omega
        · have h2 := log2_sq hw hsq
          rw [hlog] at h2
          refine .inr ?_
          have h3 : (2 * w + c).log2 < w.log2 + 2 := by
            rw [Nat.log2_lt (by omega), Nat.pow_add]
            have := lt_pow_log2 w
            rw [Nat.pow_succ] at this
            omega
          omega

theorem bi_map {e : Int} {d : Option Datum} (h : ∀ y, d = some y → BiD e y) (h1 : -1022 < e) (h2 : e ≤ 1023) : Bi (e + 1) (d.map double.write) := by
  intro b hb
  obtain ⟨y, hy, rfl⟩ := Option.map_eq_some_iff.1 hb
  have := h y hy
  cases y with
  | number s m p =>
    have := write_bd double (e := e) (s := s) (m := m) (p := p) this (by show (-1074 : Int) + 52 < e; omega) (by show e + 1 - 52 - (-1074) ≤ 2 ^ 11 - 2; omega)
    revert this
    cases double.read (double.write (.number s m p)) with
    | number _ _ _ => exact id
    | infinity _ => intro _; trivial
    | nan _ _ => exact id
  | infinity s =>
    show BiD _ (double.read (double.word s double.infRung))
    rcases rung_datum double s (Nat.le_refl double.infRung) with ⟨a, _⟩ | ⟨_, a, _⟩ | ⟨_, _, g⟩ | ⟨_, a⟩
    · exact absurd a (by decide)
    · omega
    · rw [g]; trivial
    · exact absurd a (by decide)
  | nan _ _ => exact absurd this (by intro h; exact h)

theorem Bi.sqrt {e : Int} {x : Option Nat} (h : Bi (2 * e) x) (he : 0 ≤ e) (h2 : e ≤ 1023) : Bi (e + 1) (fsqrt x) := by
  cases x with
  | none => intro b hb; cases hb
  | some a => exact bi_map (d := (double.read a).root 54) (fun z hz => root_bi (h a rfl) he hz) (by omega) h2

theorem Bi.fcv {x : Option Nat} (h : Bi 127 x) : ∃ y, Go.H.fcv .f64 .f32 x = some y := by
  cases x with
  | none => exact ⟨none, rfl⟩
  | some b =>
    cases hr : double.read b with
    | number s m p =>
      refine Bd.fcv fun b' hb' => ?_
      cases hb'
      have := h b rfl
      rw [hr] at this ⊢
      exact this
    | infinity s =>
      show ∃ y, (floatToFloatBits .f64 b .f32).map some = some y
      unfold floatToFloatBits
      rw [if_neg (by decide)]
      have : FloatKind.f64.decode b = .infinity s := hr
      rw [this]
      exact ⟨_, rfl⟩
    | nan s t =>
      have := h b rfl
      rw [hr] at this
      exact absurd this (by intro h; exact h)

/-! ### widening -/
theorem wid_none : wid none = none := rfl

theorem wid_cases (b : Nat) : (∃ s m p, single.read b = .number s m p ∧ m < 2 ^ 24 ∧ p ≤ 104 ∧ -149 ≤ p ∧ wid (some b) = some (double.write (.number s m p))) ∨ (∃ s, single.read b = .infinity s ∧ wid (some b) = some (double.write (.infinity s))) ∨ (∃ s t, single.read b = .nan s t ∧ wid (some b) = none) := by
  have hw : wid (some b) = ((floatToFloatBits .f32 b .f64).map some).getD none := rfl
  cases hd : single.read b with
  | number s m p =>
    obtain ⟨h1, h2⟩ := single_read hd
    refine .inl ⟨s, m, p, rfl, h1, h2, ?_, ?_⟩
    · revert hd
      unfold Format.read
      have : single.leastPlace = -149 := by decide
      rw [this]
      dsimp only
      split
      · intro h; cases h; omega
      · split
        · intro h; cases h; omega
        · split <;> intro h <;> cases h
    · rw [hw]
      have hd' : FloatKind.f32.decode b = .number s m p := hd
      have : (FloatKind.f64.decode (FloatKind.f64.encode (.number s m p))).isInfinity = false := double_finite s m p h1 h2
      have e1 : floatToFloatBits .f32 b .f64 = some (double.write (.number s m p)) := by
        unfold floatToFloatBits
        rw [if_neg (by decide), hd']
        simp only [this]
        rfl
      rw [e1]; rfl
  | infinity s =>
    refine .inr (.inl ⟨s, rfl, ?_⟩)
    rw [hw]
    have hd' : FloatKind.f32.decode b = .infinity s := hd
    have e1 : floatToFloatBits .f32 b .f64 = some (double.write (.infinity s)) := by
      unfold floatToFloatBits
      rw [if_neg (by decide), hd']
      rfl
    rw [e1]; rfl
  | nan s t =>
    refine .inr (.inr ⟨s, t, rfl, ?_⟩)
    rw [hw]
    have hd' : FloatKind.f32.decode b = .nan s t := hd
    have e1 : floatToFloatBits .f32 b .f64 = none := by
      unfold floatToFloatBits
      rw [if_neg (by decide), hd']
    rw [e1]; rfl

/-- what a word reads as keeps sign and nought -/
theorem read_write_zero (s : Bool) (p : Int) : double.read (double.write (.number s 0 p)) = .number s 0 (-1074) := by
  show double.read (double.nearest s 0 p) = _
  unfold Format.nearest
  rw [if_pos rfl]
  rcases rung_datum double s (Nat.zero_le _) with ⟨_, g⟩ | ⟨a, _⟩ | ⟨a, _⟩ | ⟨a, _⟩
  · exact g
  · exact absurd a (by decide)
  · exact absurd a (by decide)
  · exact absurd a (by decide)

theorem read_nearest_sign (s : Bool) (m : Nat) (p : Int) : (double.read (double.nearest s m p)).neg = s ∧ (double.read (double.nearest s m p)).isNaN = false := by
  have key : ∀ r, r ≤ double.infRung → (double.read (double.word s r)).neg = s ∧ (double.read (double.word s r)).isNaN = false := by
    intro r hr
    rcases rung_datum double s hr with ⟨_, g⟩ | ⟨_, _, m, _, _, g⟩ | ⟨_, _, g⟩ | ⟨rfl, a⟩
    · rw [g]; exact ⟨rfl, rfl⟩
    · rw [g]; exact ⟨rfl, rfl⟩
    · rw [g]; exact ⟨rfl, rfl⟩
    · exact absurd a (by decide)
  unfold Format.nearest
  split
  · exact key 0 (Nat.zero_le _)
  · exact key _ (Nat.min_le_right ..)

theorem read_write_inf (s : Bool) : double.read (double.write (.infinity s)) = .infinity s := by
  show double.read (double.word s double.infRung) = _
  rcases rung_datum double s (Nat.le_refl double.infRung) with ⟨a, _⟩ | ⟨_, a, _⟩ | ⟨_, _, g⟩ | ⟨_, a⟩
  · exact absurd a (by decide)
  · omega
  · exact g
  · exact absurd a (by decide)

/-- widened: a number of the same sign, nought where it was nought -/
theorem wid_read (b : Nat) : (∃ s m p, single.read b = .number s m p ∧ ∃ r m' p', wid (some b) = some r ∧ double.read r = .number s m' p' ∧ (m' = 0 ↔ m = 0) ∧ (m' = 0 ∨ (m'.log2 : Int) + p' < 130)) ∨ (∃ s, single.read b = .infinity s ∧ ∃ r, wid (some b) = some r ∧ double.read r = .infinity s) ∨ (∃ s t, single.read b = .nan s t ∧ wid (some b) = none) := by
  rcases wid_cases b with ⟨s, m, p, h1, hm, h2, h3, h4⟩ | ⟨s, h1, h2⟩ | h
  · refine .inl ⟨s, m, p, h1, double.write (.number s m p), ?_⟩
    by_cases h0 : m = 0
    · subst h0
      exact ⟨0, -1074, h4, read_write_zero s p, Iff.rfl, .inl rfl⟩
    · have hl : m.log2 < 24 := (Nat.log2_lt h0).2 hm
      have a := write_lo double (e := -149) (s := s) (m := m) (p := p) ⟨h0, by have := Nat.zero_le m.log2; omega⟩ (by decide) (by decide)
      have b := write_bd double (e := 129) (s := s) (m := m) (p := p) (.inr (by omega)) (by decide) (by decide)
      have c := (read_nearest_sign s m p).1
      have c : (double.read (double.write (.number s m p))).neg = s := c
      cases hr : double.read (double.write (.number s m p)) with
      | number s' m' p' =>
        rw [hr] at a b c
        have : s' = s := c
        subst this
        exact ⟨m', p', h4, rfl, ⟨fun h => absurd h a.1, fun h => absurd h h0⟩, b⟩
      | infinity _ => rw [hr] at b; exact absurd b (by intro h; exact h)
      | nan _ _ => rw [hr] at b; exact absurd b (by intro h; exact h)
  · exact .inr (.inl ⟨s, h1, _, h2, read_write_inf s⟩)
  · exact .inr (.inr h)

theorem Bi.wid (x : Option Nat) : Bi 130 (wid x) := by
  cases x with
  | none => intro b hb; cases hb
  | some a =>
    intro b hb
    rcases wid_read a with ⟨s, m, p, _, r, m', p', h1, h2, _, h3⟩ | ⟨s, _, r, h1, h2⟩ | ⟨s, t, _, h1⟩
    · rw [h1] at hb; cases hb; rw [h2]; exact h3
    · rw [h1] at hb; cases hb; rw [h2]; trivial
    · rw [h1] at hb; cases hb

theorem Cl.wid (x : Option Nat) : Cl (wid x) := by
  intro b hb
  have := Bi.wid x b hb
  revert this
  cases double.read b with
  | number _ _ _ => intro _; rfl
  | infinity _ => intro _; rfl
  | nan _ _ => intro h; exact absurd h (by intro h; exact h)

theorem fcv_sqrt_wid (x : Option Nat) : ∃ y, Go.H.fcv .f64 .f32 (fsqrt (Go.H.wid x)) = some y :=
  Bi.fcv (fun b hb => by
    have h := Bi.sqrt (e := 65) (Bi.wid x) (by omega) (by omega) b hb
    revert h
    cases double.read b with
    | number _ _ _ => exact fun h => h.imp id (fun h => by omega)
    | infinity _ => exact id
    | nan _ _ => exact id)

/-! ### finite? -/
def fin (k : FloatKind) (x : Option Nat) : Bool := match x with
  | some b => (match k.format.read b with | .number .. => true | _ => false)
  | none => false

theorem order_self (d : Datum) (h : d.isNaN = false) : d.order d = some .eq := by
  cases d with
  | nan _ _ => cases h
  | infinity s => cases s <;> rfl
  | number s m i => simp [Datum.order, Int.min_self]

theorem eql_self {k : FloatKind} {b : Nat} (h : (k.format.read b).isNaN = false) : fcmp .eql k (some b) (some b) = true := by
  show (k.format.order b b == some .eq) = true
  have : k.format.order b b = some .eq := order_self _ h
  rw [this]; rfl

theorem sum_opp (s : Bool) (m : Nat) (i : Int) : (Datum.number s m i).sum (Datum.number s m i).opposite = some (.number false 0 i) := by
  show (Datum.number s m i).sum (Datum.number (!s) m i) = _
  unfold Datum.sum
  dsimp only
  rw [Int.min_self, Int.sub_self]
  have : signed s m (Int.toNat 0) + signed (!s) m (Int.toNat 0) = 0 := by cases s <;> simp [signed] <;> omega
  rw [this]
  simp

theorem sub_self (k : FloatKind) (x : Option Nat) : fop .sub k x x = if fin k x then some 0 else none := by
  cases x with
  | none => rfl
  | some b =>
    show ((k.format.read b).sum (k.format.read b).opposite).map k.format.write = _
    show _ = if (match k.format.read b with | .number .. => true | _ => false) = true then some 0 else none
    cases k.format.read b with
    | number s m i =>
      rw [sum_opp]
      cases k <;> rfl
    | infinity s => cases s <;> rfl
    | nan _ _ => rfl

theorem fin_eql (k : FloatKind) (x : Option Nat) : fcmp .eql k (fop .sub k x x) (some 0) = fin k x := by
  rw [sub_self]
  cases fin k x
  · cases k <;> rfl
  · cases k <;> decide

theorem fin_neq (k : FloatKind) (x : Option Nat) : fcmp .neq k (fop .sub k x x) (some 0) = !fin k x := by
  rw [← fin_eql]; rfl

theorem fin_wid (x : Option Nat) : fin .f64 (wid x) = fin .f32 x := by
  cases x with
  | none => rfl
  | some b =>
    rcases wid_read b with ⟨s, m, p, h, r, m', p', h1, h2, _, h3⟩ | ⟨s, h, r, h1, h2⟩ | ⟨s, t, h, h1⟩
    · rw [h1]
      show (match double.read r with | .number .. => true | _ => false) = (match single.read b with | .number .. => true | _ => false)
      rw [h2, h]
    · rw [h1]
      show (match double.read r with | .number .. => true | _ => false) = (match single.read b with | .number .. => true | _ => false)
      rw [h2, h]
    · rw [h1]
      show false = (match single.read b with | .number .. => true | _ => false)
      rw [h]

/-- against nought, a number and its widening stand alike -/
theorem order_zero_wid (x : Option Nat) : ford .f64 (wid x) (some 0) = ford .f32 x (some 0) := by
  have z1 : single.read 0 = .number false 0 (-149) := by decide
  have z2 : double.read 0 = .number false 0 (-1074) := by decide
  have key : ∀ (s : Bool) (m : Nat) (p q : Int), (Datum.number s m p).order (.number false 0 q) = some (if m = 0 then .eq else if s then .lt else .gt) := by
    intro s m p q
    simp only [Datum.order]
    have hpos := Nat.two_pow_pos (p - min p q).toNat
    have e0 : signed false 0 (q - min p q).toNat = 0 := by simp [signed]
    rw [e0]
    unfold signed
    rw [Nat.shiftLeft_eq]
    by_cases h0 : m = 0
    · subst h0; cases s <;> simp
    · have := Nat.mul_pos (Nat.pos_of_ne_zero h0) hpos
      rw [if_neg h0]
      cases s
      · simp only [Bool.false_eq_true, if_false]
        congr 1
        rw [Int.compare_eq_gt]; omega
      · simp only [if_true]
        congr 1
        rw [Int.compare_eq_lt]; omega
  cases x with
  | none => rfl
  | some b =>
    show (wid (some b)).bind (fun a => double.order a 0) = single.order b 0
    rcases wid_read b with ⟨s, m, p, h, r, m', p', h1, h2, h3, _⟩ | ⟨s, h, r, h1, h2⟩ | ⟨s, t, h, h1⟩
    · rw [h1]
      show (double.read r).order (double.read 0) = (single.read b).order (single.read 0)
      rw [h2, h, z1, z2, key, key]
      by_cases h0 : m = 0
      · rw [if_pos h0, if_pos (h3.2 h0)]
      · rw [if_neg h0, if_neg (fun h => h0 (h3.1 h))]
    · rw [h1]
      show (double.read r).order (double.read 0) = (single.read b).order (single.read 0)
      rw [h2, h, z1, z2]
      cases s <;> rfl
    · rw [h1]
      show none = (single.read b).order (single.read 0)
      rw [h]; rfl

theorem fcmp_zero_wid (op : BinOp) (x : Option Nat) : fcmp op .f64 (wid x) (some 0) = fcmp op .f32 x (some 0) := by
  cases op <;> simp only [fcmp, feq, flt, fle, order_zero_wid]
end Go.H
