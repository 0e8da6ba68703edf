/- Bounds on float64 numbers through the operations. -/
import Derived.Test.YtohfgnjmgipehaaFB
set_option linter.unusedVariables false
namespace Go.H
open Go Ieee

def Bd (e : Int) (x : Option Nat) : Prop := ∀ b, x = some b → BdD e (double.read b)
def Lo (e : Int) (x : Option Nat) : Prop := ∀ b, x = some b → LoD e (double.read b)
def Nn (x : Option Nat) : Prop := ∀ b, x = some b → NnD (double.read b)

theorem bd_none {e : Int} : Bd e none := by intro b h; cases h
theorem lo_none {e : Int} : Lo e none := by intro b h; cases h
theorem nn_none : Nn none := by intro b h; cases h

theorem BdD.mono {e e' : Int} {d : Datum} (h : BdD e d) (he : e ≤ e') : BdD e' d := by
  cases d with
  | number s m p => exact h.imp id (fun h => by omega)
  | infinity _ => exact h
  | nan _ _ => exact h
theorem Bd.mono {e e' : Int} {x : Option Nat} (h : Bd e x) (he : e ≤ e') : Bd e' x := fun b hb => (h b hb).mono he

theorem bd_map {e : Int} {d : Option Datum} (h : ∀ y, d = some y → BdD e y) (h1 : -1022 < e) (h2 : e ≤ 1023) : Bd (e + 1) (d.map double.write) := by
  intro b hb
  obtain ⟨y, hy, rfl⟩ := Option.map_eq_some_iff.1 hb
  have := h y hy
  cases y with
  | number s m p => exact write_bd double this (by show (-1074 : Int) + 52 < e; omega) (by show e + 1 - 52 - (-1074) ≤ 2 ^ 11 - 2; omega)
  | infinity _ => exact absurd this (by intro h; exact h)
  | nan _ _ => exact absurd this (by intro h; exact h)

theorem lo_map {e : Int} {d : Option Datum} (h : ∀ y, d = some y → LoD e y) (h1 : -1022 ≤ e) : Lo e (d.map double.write) := by
  intro b hb
  obtain ⟨y, hy, rfl⟩ := Option.map_eq_some_iff.1 hb
  have := h y hy
  cases y with
  | number s m p => exact write_lo double this (by show (-1074 : Int) + 52 ≤ e; omega) (by decide)
  | infinity s =>
    show LoD e (double.read (double.word s double.infRung))
    rcases rung_datum double s (Nat.le_refl double.infRung) with ⟨a, _⟩ | ⟨_, a, _⟩ | ⟨_, _, g⟩ | ⟨_, a⟩
    · exact absurd a (by decide)
    · omega
    · rw [g]; trivial
    · exact absurd a (by decide)
  | nan _ _ => exact absurd this (by intro h; exact h)

theorem fop_some {op : BinOp} {x y : Option Nat} {r : Nat} (h : fop op .f64 x y = some r) : ∃ a b, x = some a ∧ y = some b ∧ floatBits op .f64 a b = some r := by
  unfold fop at h
  obtain ⟨a, ha, h⟩ := Option.bind_eq_some_iff.1 h
  obtain ⟨b, hb, h⟩ := Option.bind_eq_some_iff.1 h
  exact ⟨a, b, ha, hb, h⟩

theorem natAbs_signed (s : Bool) (m u : Nat) : (signed s m u).natAbs = m * 2 ^ u := by
  unfold signed
  rw [Nat.shiftLeft_eq]
  split <;> omega

theorem scaled {m : Nat} {p e base : Int} (h : m = 0 ∨ (m.log2 : Int) + p < e) (hb : base ≤ p) : m = 0 ∨ (base < e ∧ m * 2 ^ (p - base).toNat < 2 ^ (e - base).toNat) := by
  rcases h with h | h
  · exact .inl h
  · refine .inr ⟨by omega, ?_⟩
    calc m * 2 ^ (p - base).toNat < 2 ^ (m.log2 + 1) * 2 ^ (p - base).toNat := Nat.mul_lt_mul_of_pos_right (lt_pow_log2 m) (Nat.two_pow_pos _)
      _ = 2 ^ (m.log2 + 1 + (p - base).toNat) := (Nat.pow_add ..).symm
      _ ≤ _ := Nat.pow_le_pow_right (by decide) (by omega)

theorem sum_bd {e : Int} {x y z : Datum} (hx : BdD e x) (hy : BdD e y) (h : x.sum y = some z) : BdD (e + 1) z := by
  cases x with
  | infinity _ => exact absurd hx (by intro h; exact h)
  | nan _ _ => exact absurd hx (by intro h; exact h)
  | number s m i =>
    cases y with
    | infinity _ => exact absurd hy (by intro h; exact h)
    | nan _ _ => exact absurd hy (by intro h; exact h)
    | number t n j =>
      simp only [Datum.sum, Option.some.injEq] at h
      subst h
      have h1 := scaled hx (Int.min_le_left i j)
      have h2 := scaled hy (Int.min_le_right i j)
      have hn : (signed s m (i - min i j).toNat + signed t n (j - min i j).toNat).natAbs ≤ m * 2 ^ (i - min i j).toNat + n * 2 ^ (j - min i j).toNat := by
        have := Int.natAbs_add_le (signed s m (i - min i j).toNat) (signed t n (j - min i j).toNat)
        rwa [natAbs_signed, natAbs_signed] at this
      generalize (signed s m (i - min i j).toNat + signed t n (j - min i j).toNat) = T at *
      by_cases h0 : T.natAbs = 0
      · exact .inl h0
      refine .inr ?_
      have hp := Nat.two_pow_pos (e - min i j).toNat
      have hlt : min i j < e := by
        rcases h1 with h1 | ⟨h1, _⟩
        · rcases h2 with h2 | ⟨h2, _⟩
          · subst h1; subst h2; simp at hn; omega
          · exact h2
        · exact h1
      have hA : m * 2 ^ (i - min i j).toNat < 2 ^ (e - min i j).toNat := by
        rcases h1 with h1 | ⟨_, h1⟩
        · subst h1; simpa using hp
        · exact h1
      have hB : n * 2 ^ (j - min i j).toNat < 2 ^ (e - min i j).toNat := by
        rcases h2 with h2 | ⟨_, h2⟩
        · subst h2; simpa using hp
        · exact h2
      have : T.natAbs.log2 < (e - min i j).toNat + 1 := by
        rw [Nat.log2_lt h0, Nat.pow_succ]
        omega
      omega

theorem opposite_bd {e : Int} {x : Datum} (h : BdD e x) : BdD e x.opposite := by
  cases x <;> exact h

theorem Bd.add {e : Int} {x y : Option Nat} (hx : Bd e x) (hy : Bd e y) (h1 : -1023 < e) (h2 : e ≤ 1022) : Bd (e + 2) (fop .add .f64 x y) := by
  cases x with
  | none => exact bd_none
  | some a => cases y with
    | none => exact bd_none
    | some b =>
      have := bd_map (d := (double.read a).sum (double.read b)) (e := e + 1) (fun z hz => sum_bd (hx a rfl) (hy b rfl) hz) (by omega) (by omega)
      rw [show e + 1 + 1 = e + 2 by omega] at this
      exact this
theorem Bd.sub {e : Int} {x y : Option Nat} (hx : Bd e x) (hy : Bd e y) (h1 : -1023 < e) (h2 : e ≤ 1022) : Bd (e + 2) (fop .sub .f64 x y) := by
  cases x with
  | none => exact bd_none
  | some a => cases y with
    | none => exact bd_none
    | some b =>
      have := bd_map (d := (double.read a).sum (double.read b).opposite) (e := e + 1) (fun z hz => sum_bd (hx a rfl) (opposite_bd (hy b rfl)) hz) (by omega) (by omega)
      rw [show e + 1 + 1 = e + 2 by omega] at this
      exact this

theorem log2_mul_lt {m n : Nat} (hm : m ≠ 0) (hn : n ≠ 0) : (m * n).log2 ≤ m.log2 + n.log2 + 1 := by
  have h0 : m * n ≠ 0 := Nat.mul_ne_zero hm hn
  have : (m * n).log2 < m.log2 + n.log2 + 2 := by
    rw [Nat.log2_lt h0]
    calc m * n < 2 ^ (m.log2 + 1) * 2 ^ (n.log2 + 1) := Nat.mul_lt_mul'' (lt_pow_log2 m) (lt_pow_log2 n)
      _ = 2 ^ (m.log2 + n.log2 + 2) := by rw [← Nat.pow_add]; congr 1; omega
  omega

theorem product_bd {d e : Int} {x y z : Datum} (hx : BdD d x) (hy : BdD e y) (h : x.product y = some z) : BdD (d + e) z := by
  cases x with
  | infinity _ => exact absurd hx (by intro h; exact h)
  | nan _ _ => exact absurd hx (by intro h; exact h)
  | number s m i =>
    cases y with
    | infinity _ => exact absurd hy (by intro h; exact h)
    | nan _ _ => exact absurd hy (by intro h; exact h)
    | number t n j =>
      simp only [Datum.product, Option.some.injEq] at h
      subst h
      rcases hx with hx | hx
      · exact .inl (by rw [hx, Nat.zero_mul])
      · rcases hy with hy | hy
        · exact .inl (by rw [hy, Nat.mul_zero])
        · by_cases hm : m = 0
          · exact .inl (by rw [hm, Nat.zero_mul])
          · by_cases hn : n = 0
            · exact .inl (by rw [hn, Nat.mul_zero])
            · refine .inr ?_
              have := log2_mul_lt hm hn
              omega

theorem Bd.mul {d e : Int} {x y : Option Nat} (hx : Bd d x) (hy : Bd e y) (h1 : -1022 < d + e) (h2 : d + e ≤ 1023) : Bd (d + e + 1) (fop .mul .f64 x y) := by
  cases x with
  | none => exact bd_none
  | some a => cases y with
    | none => exact bd_none
    | some b => exact bd_map (d := (double.read a).product (double.read b)) (fun z hz => product_bd (hx a rfl) (hy b rfl) hz) h1 h2

/-- a quotient's size, by those of its parts -/
theorem quotient_log {m n : Nat} (hm : m ≠ 0) (hn : n ≠ 0) (digits : Nat) (i j : Int) :
    ((2 * ((m <<< (digits + n.log2 - m.log2)) / n) + ((m <<< (digits + n.log2 - m.log2)) % n != 0).toNat).log2 : Int) + (i - j - (digits + n.log2 - m.log2 : Nat) - 1) ≤ (m.log2 + i) - (n.log2 + j) ∨ (2 * ((m <<< (digits + n.log2 - m.log2)) / n) + ((m <<< (digits + n.log2 - m.log2)) % n != 0).toNat) = 0 := by
  generalize hk : digits + n.log2 - m.log2 = k
  have hbt : ∀ b : Bool, b.toNat ≤ 1 := by decide
  have hb := hbt ((m <<< k) % n != 0)
  generalize ((m <<< k) % n != 0).toNat = c at *
  have hq : (m <<< k) / n < 2 ^ (m.log2 + 1 + k - n.log2) := by
    rw [Nat.div_lt_iff_lt_mul (Nat.pos_of_ne_zero hn), Nat.shiftLeft_eq]
    calc m * 2 ^ k < 2 ^ (m.log2 + 1) * 2 ^ k := Nat.mul_lt_mul_of_pos_right (lt_pow_log2 m) (Nat.two_pow_pos _)
      _ = 2 ^ (m.log2 + 1 + k) := (Nat.pow_add ..).symm
      _ = 2 ^ (m.log2 + 1 + k - n.log2) * 2 ^ n.log2 := by rw [← Nat.pow_add]; congr 1; omega
      _ ≤ _ := Nat.mul_le_mul_left _ (pow_log2_le hn)
  generalize (m <<< k) / n = q at *
  by_cases h0 : 2 * q + c = 0
  · exact .inr h0
  · left
    have : (2 * q + c).log2 < m.log2 + 1 + k - n.log2 + 1 := by
      rw [Nat.log2_lt h0, Nat.pow_succ]
      omega
    omega

theorem quotient_bd {d e : Int} {digits : Nat} {x y z : Datum} (hx : BdD d x) (hy : LoD e y) (h : x.quotient digits y = some z) : BdD (d - e) z := by
  cases x with
  | infinity _ => exact absurd hx (by intro h; exact h)
  | nan _ _ => exact absurd hx (by intro h; exact h)
  | number s m i =>
    cases y with
    | infinity _ => 
      simp only [Datum.quotient, Option.some.injEq] at h
      subst h
      exact .inl rfl
    | nan _ _ => exact absurd hy (by intro h; exact h)
    | number t n j =>
      obtain ⟨hn, hy⟩ := hy
      simp only [Datum.quotient, if_neg hn, Option.some.injEq] at h
      subst h
      by_cases hm : m = 0
      · refine .inl ?_
        subst hm
        simp
      · rcases hx with hx | hx
        · exact absurd hx hm
        · rcases quotient_log hm hn digits i j with h | h
          · exact .inr (by omega)
          · exact .inl h

theorem Bd.quo {d e : Int} {x y : Option Nat} (hx : Bd d x) (hy : Lo e y) (h1 : -1022 < d - e) (h2 : d - e ≤ 1023) : Bd (d - e + 1) (fop .quo .f64 x y) := by
  cases x with
  | none => exact bd_none
  | some a => cases y with
    | none => exact bd_none
    | some b => exact bd_map (d := (double.read a).quotient 54 (double.read b)) (fun z hz => quotient_bd (hx a rfl) (hy b rfl) hz) h1 h2

/-- the lesser by the greater -/
theorem ratio {x y z : Datum} {digits : Nat} (hx : NnD x) (hy : NnD y) (ho : x.order y ≠ some .gt) (h : x.quotient digits y = some z) : BdD 1 z := by
  cases x with
  | nan _ _ => cases h
  | infinity s =>
    simp only [NnD] at hx
    subst hx
    cases y with
    | nan _ _ => exact absurd hy (by intro h; exact h)
    | infinity t => cases h
    | number t n j => exact absurd rfl ho
  | number s m i =>
    cases y with
    | nan _ _ => exact absurd hy (by intro h; exact h)
    | infinity t =>
      simp only [Datum.quotient, Option.some.injEq] at h
      subst h
      exact .inl rfl
    | number t n j =>
      have sg : ∀ (s : Bool) (m u : Nat), (s = false ∨ m = 0) → signed s m u = ((m * 2 ^ u : Nat) : Int) := by
        intro s m u h
        unfold signed
        rw [Nat.shiftLeft_eq]
        rcases h with h | h <;> subst h <;> simp
      have hle : m * 2 ^ (i - min i j).toNat ≤ n * 2 ^ (j - min i j).toNat := by
        simp only [Datum.order, sg _ _ _ hx, sg _ _ _ hy] at ho
        refine Nat.le_of_not_lt fun hlt => ho ?_
        rw [Option.some.injEq, Int.compare_eq_gt]
        omega
      by_cases hm : m = 0
      · subst hm
        by_cases hn : n = 0
        · subst hn
          simp [Datum.quotient] at h
        · simp only [Datum.quotient, if_neg hn, Option.some.injEq] at h
          subst h
          exact .inl (by simp)
      · have hn : n ≠ 0 := by
          intro hn
          subst hn
          have := Nat.mul_pos (Nat.pos_of_ne_zero hm) (Nat.two_pow_pos (i - min i j).toNat)
          omega
        simp only [Datum.quotient, if_neg hn, Option.some.injEq] at h
        subst h
        have hl : (m.log2 : Int) + i ≤ n.log2 + j := by
          have h1 : 2 ^ (m.log2 + (i - min i j).toNat) < 2 ^ (n.log2 + 1 + (j - min i j).toNat) := by
            rw [Nat.pow_add, Nat.pow_add]
            refine Nat.lt_of_le_of_lt (Nat.mul_le_mul_right _ (pow_log2_le hm)) (Nat.lt_of_le_of_lt hle ?_)
            exact Nat.mul_lt_mul_of_pos_right (lt_pow_log2 n) (Nat.two_pow_pos _)
          have := (Nat.pow_lt_pow_iff_right (by decide : 1 < 2)).1 h1
          omega
        rcases quotient_log hm hn digits i j with h | h
        · exact .inr (by omega)
        · exact .inl h

theorem not_gt {x y : Nat} (h : fcmp .gtr .f64 (some x) (some y) = false) : (double.read x).order (double.read y) ≠ some .gt := by
  intro ho
  have : fcmp .gtr .f64 (some x) (some y) = true := by
    show (double.order x y == some .gt) = true
    show ((double.read x).order (double.read y) == some .gt) = true
    rw [ho]; rfl
  rw [this] at h; cases h

theorem is_gt {x y : Nat} (h : fcmp .gtr .f64 (some x) (some y) = true) : (double.read y).order (double.read x) ≠ some .gt := by
  have h' : ((double.read x).order (double.read y) == some .gt) = true := h
  have h'' : (double.read x).order (double.read y) = some .gt := by simpa using h'
  intro ho
  revert h'' ho
  cases double.read x with
  | nan _ _ => intro h; cases h
  | infinity s => cases double.read y with
    | nan _ _ => intro h; cases h
    | infinity t => cases s <;> cases t <;> decide
    | number t n j => cases s <;> simp [Datum.order]
  | number s m i => cases double.read y with
    | nan _ _ => intro h; cases h
    | infinity t => cases t <;> simp [Datum.order]
    | number t n j =>
      simp only [Datum.order, Option.some.injEq]
      rw [Int.min_comm j i]
      generalize signed s m (i - min i j).toNat = A
      generalize signed t n (j - min i j).toNat = B
      intro h1 h2
      rw [Int.compare_eq_gt] at h1 h2
      omega

/-- the quotient of the lesser by the greater -/
theorem Bd.ratio {x y : Option Nat} (hx : Nn x) (hy : Nn y) : Bd 2 (if fcmp .gtr .f64 x y = true then fop .quo .f64 y x else fop .quo .f64 x y) := by
  cases x with
  | none => split <;> (intro b hb; obtain ⟨_, _, h1, h2, _⟩ := fop_some hb; first | (cases h1; done) | (cases h2; done))
  | some a => cases y with
    | none => split <;> (intro b hb; obtain ⟨_, _, h1, h2, _⟩ := fop_some hb; first | (cases h1; done) | (cases h2; done))
    | some b =>
      split
      · rename_i hc
        exact bd_map (d := (double.read b).quotient 54 (double.read a)) (e := 1) (fun z hz => Go.H.ratio (hy b rfl) (hx a rfl) (is_gt hc) hz) (by omega) (by omega)
      · rename_i hc
        exact bd_map (d := (double.read a).quotient 54 (double.read b)) (e := 1) (fun z hz => Go.H.ratio (hx a rfl) (hy b rfl) (not_gt (by simpa using hc)) hz) (by omega) (by omega)

theorem Nn.sqrt {x : Option Nat} : Nn (fsqrt x) := by
  intro b hb
  unfold fsqrt at hb
  obtain ⟨a, rfl, h⟩ := Option.bind_eq_some_iff.1 hb
  have h : ((double.read a).root 54).map double.write = some b := h
  obtain ⟨d, hd, rfl⟩ := Option.map_eq_some_iff.1 h
  have key : ∀ r, r ≤ double.infRung → NnD (double.read (double.word false r)) := by
    intro r hr
    rcases rung_datum double false hr with ⟨_, g⟩ | ⟨_, _, m, _, _, g⟩ | ⟨_, _, g⟩ | ⟨rfl, a⟩
    · rw [g]; exact .inl rfl
    · rw [g]; exact .inl rfl
    · rw [g]; exact rfl
    · exact absurd a (by decide)
  have zero : ∀ s i, NnD (double.read (double.write (.number s 0 i))) := by
    intro s i
    show NnD (double.read (double.nearest s 0 i))
    unfold Format.nearest
    rw [if_pos rfl]
    rcases rung_datum double s (Nat.zero_le _) with ⟨_, g⟩ | ⟨a, _⟩ | ⟨a, _⟩ | ⟨a, _⟩
    · rw [g]; exact .inr rfl
    · exact absurd a (by decide)
    · exact absurd a (by decide)
    · exact absurd a (by decide)
  have wr : ∀ m p, NnD (double.read (double.write (.number false m p))) := by
    intro m p
    show NnD (double.read (double.nearest false m p))
    unfold Format.nearest
    split
    · exact key 0 (Nat.zero_le _)
    · exact key _ (Nat.min_le_right ..)
  revert hd
  cases double.read a with
  | nan _ _ => intro h; cases h
  | infinity s => 
    cases s
    · intro h; cases h; exact key _ (Nat.le_refl _)
    · intro h; cases h
  | number s m i =>
    unfold Datum.root
    dsimp only
    split
    · rename_i h0
      intro h; cases h
      subst h0
      exact zero s i
    · split
      · intro h; cases h
      · intro h; cases h
        exact wr _ _

theorem sum_lo {d : Datum} {m : Nat} {i : Int} {z : Datum} (hm : m ≠ 0) (hd : NnD d) (h : (Datum.number false m i).sum d = some z) : LoD ((m.log2 : Int) + i) z := by
  cases d with
  | nan _ _ => cases h
  | infinity s => cases h; trivial
  | number t n j =>
    simp only [Datum.sum, Option.some.injEq] at h
    subst h
    have sg : ∀ (s : Bool) (m u : Nat), (s = false ∨ m = 0) → signed s m u = ((m * 2 ^ u : Nat) : Int) := by
      intro s m u h
      unfold signed
      rw [Nat.shiftLeft_eq]
      rcases h with h | h <;> subst h <;> simp
    rw [sg _ _ _ hd, sg false m _ (.inl rfl)]
    have : ((m * 2 ^ (i - min i j).toNat : Nat) + (n * 2 ^ (j - min i j).toNat : Nat) : Int).natAbs = m * 2 ^ (i - min i j).toNat + n * 2 ^ (j - min i j).toNat := by omega
    rw [this]
    have hpos := Nat.mul_pos (Nat.pos_of_ne_zero hm) (Nat.two_pow_pos (i - min i j).toNat)
    have h0 : m * 2 ^ (i - min i j).toNat + n * 2 ^ (j - min i j).toNat ≠ 0 := by omega
    refine ⟨h0, ?_⟩
    have : m.log2 + (i - min i j).toNat ≤ (m * 2 ^ (i - min i j).toNat + n * 2 ^ (j - min i j).toNat).log2 := by
      rw [Nat.le_log2 h0, Nat.pow_add]
      have := Nat.mul_le_mul_right (2 ^ (i - min i j).toNat) (pow_log2_le hm)
      omega
    omega

/-- one and more -/
theorem Lo.one_add {x : Option Nat} (hx : Nn x) : Lo 0 (fop .add .f64 (some 4607182418800017408) x) := by
  cases x with
  | none => exact lo_none
  | some a =>
    have h1 : double.read 4607182418800017408 = .number false 4503599627370496 (-52) := by decide
    refine lo_map (d := (double.read 4607182418800017408).sum (double.read a)) (fun z hz => ?_) (by omega)
    rw [h1] at hz
    have := sum_lo (by decide) (hx a rfl) hz
    rwa [show ((4503599627370496 : Nat).log2 : Int) + -52 = 0 by decide] at this

theorem read_abs (b : Nat) : double.read (b % 2 ^ 63) = (match double.read b with | .number _ m p => .number false m p | .infinity _ => .infinity false | .nan _ t => .nan false t) := by
  have hs : double.signWeight = 2 ^ 63 := by decide
  unfold Format.read
  rw [hs, Nat.mod_mod, Nat.div_eq_of_lt (Nat.mod_lt b (by decide))]
  dsimp only
  split
  · rfl
  · split
    · rfl
    · split <;> rfl

/-- a class: a not-a-number has no bits -/
def Cl (x : Option Nat) : Prop := ∀ b, x = some b → (double.read b).isNaN = false

theorem Nn.abs {x : Option Nat} (h : Cl x) : Nn (fabs x) := by
  intro b hb
  unfold fabs at hb
  obtain ⟨a, rfl, rfl⟩ := Option.map_eq_some_iff.1 hb
  have := h a rfl
  rw [read_abs]
  revert this
  cases double.read a with
  | nan _ _ => intro h; cases h
  | infinity _ => intro _; exact rfl
  | number _ _ _ => intro _; exact .inl rfl

theorem Bd.neg {e : Int} {x : Option Nat} (h : Bd e x) : Bd e (fneg .f64 x) := by
  intro b hb
  unfold fneg at hb
  obtain ⟨a, rfl, rfl⟩ := Option.map_eq_some_iff.1 hb
  have := h a rfl
  have e1 : (Op.negFloat .f64 a) % 2 ^ 63 = a % 2 ^ 63 := by
    show (a ^^^ 2 ^ (11 + 52)) % 2 ^ 63 = _
    rw [Nat.xor_mod_two_pow, show 2 ^ (11 + 52) % 2 ^ 63 = 0 by decide, Nat.xor_zero]
  have key : ∀ b, BdD e (double.read (b % 2 ^ 63)) ↔ BdD e (double.read b) := by
    intro b
    rw [read_abs]
    cases double.read b <;> exact Iff.rfl
  rw [← key, e1, key]
  exact this

theorem Bd.fcv {x : Option Nat} (h : Bd 127 x) : ∃ y, fcv .f64 .f32 x = some y := by
  cases x with
  | none => exact ⟨none, rfl⟩
  | some b =>
    have hb := h b rfl
    revert hb
    show BdD 127 (double.read b) → ∃ y, (floatToFloatBits .f64 b .f32).map some = some y
    unfold floatToFloatBits
    rw [if_neg (by decide)]
    show BdD 127 (double.read b) → ∃ y, (match double.read b with | .nan _ _ => none | .infinity s => some (FloatKind.f32.encode (.infinity s)) | .number s m e => if (FloatKind.f32.decode (FloatKind.f32.encode (.number s m e))).isInfinity then none else some (FloatKind.f32.encode (.number s m e))).map some = some y
    cases double.read b with
    | nan _ _ => intro h; exact absurd h (by intro h; exact h)
    | infinity _ => intro h; exact absurd h (by intro h; exact h)
    | number s m p =>
      intro hb
      dsimp only
      have := write_bd single hb (by decide) (by decide)
      have hi : (FloatKind.f32.decode (FloatKind.f32.encode (.number s m p))).isInfinity = false := by
        show (single.read (single.write (.number s m p))).isInfinity = false
        revert this
        cases single.read (single.write (.number s m p)) with
        | infinity _ => intro h; exact absurd h (by intro h; exact h)
        | number _ _ _ => intro _; rfl
        | nan _ _ => intro _; rfl
      rw [hi]
      exact ⟨_, rfl⟩
end Go.H
