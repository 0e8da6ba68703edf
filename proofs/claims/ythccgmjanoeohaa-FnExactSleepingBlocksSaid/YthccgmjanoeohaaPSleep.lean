/- Blocks that sleep: both texts' are the same. -/
import Derived.Test.YthccgmjanoeohaaGSleep
import Derived.Test.YthccgmjanoeohaaPCells
import Derived.Test.YthccgmjanoeohaaPField2
set_option linter.unusedVariables false
namespace Go.H
open Go Ieee

theorem bits_some (x : Option Nat) : ∃ n, impl_BitsOf x = some n ∧ spec_l01Bits x = some n := by
  unfold impl_BitsOf spec_l01Bits
  cases hx : fcmp .neq .f32 x x with
  | true => exact ⟨_, rfl, rfl⟩
  | false =>
    cases x with
    | none => exact absurd hx (by decide)
    | some b => exact ⟨_, rfl, rfl⟩

theorem bits_zero : spec_l01Bits (some 0) = some 0 := by
  unfold spec_l01Bits
  rw [if_neg (by decide)]; rfl

theorem nothing_eq {n j : Nat} (e x y : List (Option Nat)) (le : e.length = n) (lx : x.length = n) (ly : y.length = n) (hj : j < n) : ∃ v, impl_isNothing e x y (j : Int) = some v ∧ spec_l07Empty e x y (j : Int) = some v := by
  have i1 : j < e.length := by omega
  have i2 : j < x.length := by omega
  have i3 : j < y.length := by omega
  obtain ⟨n1, a1, b1⟩ := bits_some e[j]
  obtain ⟨n2, a2, b2⟩ := bits_some x[j]
  obtain ⟨n3, a3, b3⟩ := bits_some y[j]
  unfold impl_isNothing spec_l07Empty spec_l01Same
  simp only [idx_nat, List.getElem?_eq_getElem i1, List.getElem?_eq_getElem i2, List.getElem?_eq_getElem i3, some_bind', a1, a2, a3, b1, b2, b3, bits_zero, ite_andB]
  exact ⟨_, rfl, rfl⟩

/-- whether nothing is in a cell -/
noncomputable def nothingV (e x y : List (Option Nat)) (j : Nat) : Bool := (impl_isNothing e x y (j : Int)).getD true
theorem nothingV_eq {n j : Nat} {e x y : List (Option Nat)} (le : e.length = n) (lx : x.length = n) (ly : y.length = n) (hj : j < n) : impl_isNothing e x y (j : Int) = some (nothingV e x y j) ∧ spec_l07Empty e x y (j : Int) = some (nothingV e x y j) := by
  obtain ⟨v, h1, h2⟩ := nothing_eq e x y le lx ly hj
  unfold nothingV
  rw [h1, h2]
  exact ⟨rfl, rfl⟩

def adj (w : Nat) (b : Bool) (a c : Nat) : Prop := a = c ∨ a + 1 = c ∨ c + 1 = a ∨ (b = true ∧ (a + w = c + 1 ∨ c + w = a + 1))
instance (w : Nat) (b : Bool) (a c : Nat) : Decidable (adj w b a c) := by unfold adj; infer_instance

theorem way_eq {w a c : Nat} (b : Bool) (hw : w ≤ 16) (ha : a < w) (hc : c < w) : ∃ t : Int, 0 ≤ t ∧ t ≤ 16 ∧ spec_l03Way a c w b = some t ∧ (t ≤ 0 ↔ a = c) ∧ (t ≤ 1 ↔ adj w b a c) := by
  unfold spec_l03Way spec_l00Max spec_l00Min adj
  rw [wrap_small (n := (a : Int) - c) (by omega) (by omega), wrap_small (n := (c : Int) - a) (by omega) (by omega)]
  have key : ∀ d : Int, 0 ≤ d → d ≤ 15 → d < w → (d = (a : Int) - c ∨ d = (c : Int) - a) → ∃ t : Int, 0 ≤ t ∧ t ≤ 16 ∧ (if b = true then ((if decide (d < IntKind.wrap .i64 ((w : Int) - d)) = true then some d else some (IntKind.wrap .i64 ((w : Int) - d))).bind fun (x2 : Int) => some x2) else some d) = some t ∧ (t ≤ 0 ↔ a = c) ∧ (t ≤ 1 ↔ (a = c ∨ a + 1 = c ∨ c + 1 = a ∨ (b = true ∧ (a + w = c + 1 ∨ c + w = a + 1)))) := by
    intro d d0 d1 d2 d3
    cases b with
    | false => exact ⟨d, d0, by omega, rfl, by omega, by simp; omega⟩
    | true =>
      rw [wrap_small (n := (w : Int) - d) (by omega) (by omega)]
      by_cases h : d < (w : Int) - d
      · exact ⟨d, d0, by omega, by rw [decide_eq_true h]; rfl, by omega, by simp; omega⟩
      · exact ⟨(w : Int) - d, by omega, by omega, by rw [decide_eq_false h]; rfl, by omega, by simp; omega⟩
  by_cases h : (a : Int) - c > (c : Int) - a
  · rw [decide_eq_true h, if_pos rfl]
    exact key _ (by omega) (by omega) (by omega) (.inl rfl)
  · rw [decide_eq_false h, if_neg (by simp)]
    exact key _ (by omega) (by omega) (by omega) (.inr rfl)

/-- a coordinate that may lie one step outside, brought inside -/
def cyc (w : Nat) (u : Int) : Nat := if u = -1 then w - 1 else if u = w then 0 else u.toNat

theorem cyc_eq {w : Nat} {u : Int} (hw0 : 1 ≤ w) (hw : w ≤ 16) (hu : -1 ≤ u ∧ u ≤ w) : Int.tmod (IntKind.wrap .i64 (u + (w : Int))) (w : Int) = ((cyc w u : Nat) : Int) ∧ cyc w u < w := by
  rw [wrap_small (by omega) (by omega)]
  unfold cyc
  by_cases h1 : u = -1
  · subst h1
    rw [if_pos rfl, show (-1 : Int) + (w : Int) = ((w - 1 : Nat) : Int) by omega]
    refine ⟨?_, by omega⟩
    show (((w - 1) % w : Nat) : Int) = _
    rw [Nat.mod_eq_of_lt (by omega)]
  · rw [if_neg h1]
    by_cases h2 : u = w
    · subst h2
      rw [if_pos rfl, show (w : Int) + (w : Int) = ((w + w : Nat) : Int) by omega]
      refine ⟨?_, by omega⟩
      show (((w + w) % w : Nat) : Int) = _
      simp
    · rw [if_neg h2]
      obtain ⟨k, rfl⟩ := Int.eq_ofNat_of_zero_le (show 0 ≤ u by omega)
      rw [show (k : Int) + (w : Int) = ((k + w : Nat) : Int) by omega]
      have hk : k < w := by omega
      refine ⟨?_, by simpa using hk⟩
      show (((k + w) % w : Nat) : Int) = _
      rw [Nat.add_mod_right, Nat.mod_eq_of_lt hk]
      simp

theorem at_cyc {w h : Nat} {u v : Int} (b : Bool) (l m : List (Option Nat)) (w0 : 1 ≤ w) (hw : w ≤ 16) (h0 : 1 ≤ h) (hh : h ≤ 16) (hu : -1 ≤ u ∧ u ≤ w) (hv : -1 ≤ v ∧ v ≤ h) : impl_Sheet_at w h b l m u v = some ((cyc w u + w * cyc h v : Nat) : Int) ∧ cyc w u + w * cyc h v < w * h := by
  obtain ⟨a1, a2⟩ := cyc_eq w0 hw hu
  obtain ⟨b1, b2⟩ := cyc_eq h0 hh hv
  refine ⟨?_, row_lt a2 b2⟩
  unfold impl_Sheet_at
  rw [if_neg (by omega), if_neg (by omega), a1, b1, place_eq hw hh a2 b2]

theorem cyc_self {w c : Nat} (hc : c < w) : cyc w ((c : Int) + 0) = c := by
  unfold cyc; rw [if_neg (by omega), if_neg (by omega)]; omega
theorem cyc_up {w c : Nat} (hc : c < w) : cyc w ((c : Int) + 1) = if c + 1 = w then 0 else c + 1 := by
  unfold cyc; rw [if_neg (by omega)]; split <;> split <;> omega
theorem cyc_dn {w c : Nat} (hc : c < w) : cyc w ((c : Int) + -1) = if c = 0 then w - 1 else c - 1 := by
  unfold cyc; split <;> split <;> (try split) <;> omega

def dirs : List (Int × Int) := [(0, 0), (1, 0), (-1, 0), (0, 1), (0, -1)]
def near (w h : Nat) (b : Bool) (u v : Int) : Bool := b || ((decide (u ≥ 0) && decide (u ≤ (w : Int) - 1)) && (decide (v ≥ 0) && decide (v ≤ (h : Int) - 1)))
/-- beside the cell lies something, in direction k -/
def loud (w h : Nat) (b : Bool) (N : Nat → Bool) (cx cy k : Nat) : Bool :=
  near w h b ((cx : Int) + (dirs.getD k (0, 0)).1) ((cy : Int) + (dirs.getD k (0, 0)).2) && !N (cyc w ((cx : Int) + (dirs.getD k (0, 0)).1) + w * cyc h ((cy : Int) + (dirs.getD k (0, 0)).2))
def loudAny (w h : Nat) (b : Bool) (N : Nat → Bool) (cx cy : Nat) : Bool := (List.range 5).any (loud w h b N cx cy)

theorem dirs_bd : ∀ k, k < 5 → dirs[k]? = some (dirs.getD k (0, 0)) ∧ -1 ≤ (dirs.getD k (0, 0)).1 ∧ (dirs.getD k (0, 0)).1 ≤ 1 ∧ -1 ≤ (dirs.getD k (0, 0)).2 ∧ (dirs.getD k (0, 0)).2 ≤ 1 := by decide

theorem isCell_eq {w h : Nat} (b : Bool) (l m : List (Option Nat)) (hw : w ≤ 16) (hh : h ≤ 16) (u v : Int) : impl_Sheet_isCell w h b l m u v = some ((decide (u ≥ 0) && decide (u ≤ (w : Int) - 1)) && (decide (v ≥ 0) && decide (v ≤ (h : Int) - 1))) := by
  unfold impl_Sheet_isCell
  rw [wrap_small (n := (w : Int) - 1) (by omega) (by omega), wrap_small (n := (h : Int) - 1) (by omega) (by omega)]
  simp only [(in_eq _ _ _).2, some_bind', ite_andB]

section
variable {w h : Nat} (b : Bool) (l m e x y : List (Option Nat)) (w1 : 3 ≤ w) (w2 : w ≤ 16) (k1 : 3 ≤ h) (k2 : h ≤ 16) (le : e.length = w * h) (lx : x.length = w * h) (ly : y.length = w * h)
include w1 w2 k1 k2 le lx ly

theorem quiet_eq {cx cy : Nat} (hx : cx < w) (hy : cy < h) : impl_isQuiet w h b l m e x y cx cy = some (!loudAny w h b (nothingV e x y) cx cy) := by
  unfold impl_isQuiet
  have A := loop_all' (step := fun (s : (Bool × Int)) => impl_isQuiet.s0 w h b l m e x y cx cy s.1 s.2) (n := 5) (loud w h b (nothingV e x y) cx cy) false (false, 5, false) (fun k hk => by
    show impl_isQuiet.s0 w h b l m e x y cx cy false (k : Int) = _
    unfold impl_isQuiet.s0
    obtain ⟨d0, d1, d2, d3, d4⟩ := dirs_bd k hk
    have d0' : idx [((0 : Int), (0 : Int)), (1, 0), ((-1), 0), (0, 1), (0, (-1))] (k : Int) = some (dirs.getD k (0, 0)) := by rw [idx_nat]; exact d0
    rw [if_pos (by simp; omega), d0', some_bind']
    unfold loud
    generalize dirs.getD k (0, 0) = d at *
    rw [wrap_small (n := (cx : Int) + d.1) (by omega) (by omega), wrap_small (n := (cy : Int) + d.2) (by omega) (by omega)]
    obtain ⟨a1, a2⟩ := at_cyc (u := (cx : Int) + d.1) (v := (cy : Int) + d.2) b l m (by omega) w2 (by omega) k2 ⟨by omega, by omega⟩ ⟨by omega, by omega⟩
    simp only [a1, some_bind', (nothingV_eq le lx ly a2).1, isCell_eq b l m w2 k2, ite_andB, one_more (show k ≤ 1000000000 by omega)]
    unfold near
    cases b with
    | true => simp only [if_true, some_bind', Bool.true_or, Bool.true_and, ite_some]
    | false => simp only [Bool.false_eq_true, if_false, some_bind', Bool.false_or, ite_some]) (by
    show impl_isQuiet.s0 w h b l m e x y cx cy false 5 = _
    unfold impl_isQuiet.s0
    rw [if_neg (by decide)]
    rfl)
  have A' : loopF (fun (s : (Bool × Int)) => impl_isQuiet.s0 w h b l m e x y cx cy s.1 s.2) (false, 0) = _ := A
  rw [A', some_bind']
  unfold loudAny
  cases (List.range 5).any (loud w h b (nothingV e x y) cx cy) <;> rfl
end

def closeTo (w h : Nat) (b : Bool) (i j : Nat) : Bool := decide ((i % w = j % w ∧ adj h b (i / w) (j / w)) ∨ (adj w b (i % w) (j % w) ∧ i / w = j / w))

theorem loud_any {w h : Nat} (b : Bool) (N : Nat → Bool) {cx cy : Nat} (w1 : 3 ≤ w) (k1 : 3 ≤ h) (hx : cx < w) (hy : cy < h) : ((List.range (w * h)).any fun j => closeTo w h b (cx + w * cy) j && !N j) = loudAny w h b N cx cy := by
  rw [Bool.eq_iff_iff]
  unfold loudAny closeTo
  simp only [List.any_eq_true, List.mem_range, Bool.and_eq_true, decide_eq_true_eq, Bool.not_eq_true', cell_mod hx, cell_div hx]
  constructor
  · rintro ⟨j, hj, hc, hN⟩
    have xl : j % w < w := Nat.mod_lt _ (by omega)
    have yl : j / w < h := Nat.div_lt_of_lt_mul hj
    rw [← Nat.mod_add_div j w] at hN
    generalize j % w = xj at *
    generalize j / w = yj at *
    have c0 := cyc_self hx
    have c1 := cyc_up hx
    have c2 := cyc_dn hx
    have g0 := cyc_self hy
    have g1 := cyc_up hy
    have g2 := cyc_dn hy
    unfold adj at hc
    have K : ∀ k : Nat, k < 5 → near w h b ((cx : Int) + (dirs.getD k (0, 0)).1) ((cy : Int) + (dirs.getD k (0, 0)).2) = true → cyc w ((cx : Int) + (dirs.getD k (0, 0)).1) = xj → cyc h ((cy : Int) + (dirs.getD k (0, 0)).2) = yj → ∃ k, k < 5 ∧ loud w h b N cx cy k = true := by
      intro k hk h1 h2 h3
      refine ⟨k, hk, ?_⟩
      unfold loud
      rw [h1, h2, h3, hN]; rfl
    have nr : ∀ u v : Int, (b = true ∨ (0 ≤ u ∧ u ≤ (w : Int) - 1 ∧ 0 ≤ v ∧ v ≤ (h : Int) - 1)) → near w h b u v = true := by
      intro u v hh
      unfold near
      rcases hh with hh | hh
      · rw [hh]; rfl
      · simp; omega
    rcases hc with ⟨rfl, hc⟩ | ⟨hc, rfl⟩
    · rcases hc with rfl | hc | hc | ⟨hb, hc | hc⟩
      · exact K 0 (by decide) (nr _ _ (.inr (by simp [dirs]; omega))) c0 g0
      · exact K 3 (by decide) (nr _ _ (.inr (by simp [dirs]; omega))) c0 (g1.trans (by rw [if_neg (by omega)]; exact hc))
      · exact K 4 (by decide) (nr _ _ (.inr (by simp [dirs]; omega))) c0 (g2.trans (by rw [if_neg (by omega)]; omega))
      · exact K 4 (by decide) (nr _ _ (.inl hb)) c0 (g2.trans (by rw [if_pos (by omega)]; omega))
      · exact K 3 (by decide) (nr _ _ (.inl hb)) c0 (g1.trans (by rw [if_pos (by omega)]; omega))
    · rcases hc with rfl | hc | hc | ⟨hb, hc | hc⟩
      · exact K 0 (by decide) (nr _ _ (.inr (by simp [dirs]; omega))) c0 g0
      · exact K 1 (by decide) (nr _ _ (.inr (by simp [dirs]; omega))) (c1.trans (by rw [if_neg (by omega)]; exact hc)) g0
      · exact K 2 (by decide) (nr _ _ (.inr (by simp [dirs]; omega))) (c2.trans (by rw [if_neg (by omega)]; omega)) g0
      · exact K 2 (by decide) (nr _ _ (.inl hb)) (c2.trans (by rw [if_pos (by omega)]; omega)) g0
      · exact K 1 (by decide) (nr _ _ (.inl hb)) (c1.trans (by rw [if_pos (by omega)]; omega)) g0
  · rintro ⟨k, hk, hl⟩
    unfold loud at hl
    rw [Bool.and_eq_true, Bool.not_eq_true'] at hl
    obtain ⟨hn, hN⟩ := hl
    have nr : ∀ u v : Int, near w h b u v = true → (b = true ∨ (0 ≤ u ∧ u ≤ (w : Int) - 1 ∧ 0 ≤ v ∧ v ≤ (h : Int) - 1)) := by
      intro u v hh
      unfold near at hh
      cases b with
      | true => exact .inl rfl
      | false => simp at hh; exact .inr (by omega)
    have hn := nr _ _ hn
    have G : ∀ xj yj : Nat, xj < w → yj < h → N (xj + w * yj) = false → ((cx = xj ∧ adj h b cy yj) ∨ (adj w b cx xj ∧ cy = yj)) → ∃ j, j < w * h ∧ ((cx = j % w ∧ adj h b cy (j / w)) ∨ (adj w b cx (j % w) ∧ cy = j / w)) ∧ N j = false := by
      intro xj yj hxj hyj hN hc
      exact ⟨xj + w * yj, row_lt hxj hyj, by rw [cell_mod hxj, cell_div hxj]; exact hc, hN⟩
    unfold adj
    unfold adj at G
    match k, hk with
    | 0, _ =>
      have hN : N (cyc w ((cx : Int) + 0) + w * cyc h ((cy : Int) + 0)) = false := hN
      rw [cyc_self hx, cyc_self hy] at hN
      exact G _ _ hx hy hN (.inl ⟨rfl, .inl rfl⟩)
    | 1, _ =>
      have hN : N (cyc w ((cx : Int) + 1) + w * cyc h ((cy : Int) + 0)) = false := hN
      rw [cyc_up hx, cyc_self hy] at hN
      refine G _ _ ?_ hy hN (.inr ⟨?_, rfl⟩)
      · split <;> omega
      · simp [dirs] at hn
        split
        · rcases hn with hn | hn
          · exact .inr (.inr (.inr ⟨hn, by omega⟩))
          · omega
        · exact .inr (.inl rfl)
    | 2, _ =>
      have hN : N (cyc w ((cx : Int) + -1) + w * cyc h ((cy : Int) + 0)) = false := hN
      rw [cyc_dn hx, cyc_self hy] at hN
      refine G _ _ ?_ hy hN (.inr ⟨?_, rfl⟩)
      · split <;> omega
      · simp [dirs] at hn
        split
        · rcases hn with hn | hn
          · exact .inr (.inr (.inr ⟨hn, by omega⟩))
          · omega
        · exact .inr (.inr (.inl (by omega)))
    | 3, _ =>
      have hN : N (cyc w ((cx : Int) + 0) + w * cyc h ((cy : Int) + 1)) = false := hN
      rw [cyc_self hx, cyc_up hy] at hN
      refine G _ _ hx ?_ hN (.inl ⟨rfl, ?_⟩)
      · split <;> omega
      · simp [dirs] at hn
        split
        · rcases hn with hn | hn
          · exact .inr (.inr (.inr ⟨hn, by omega⟩))
          · omega
        · exact .inr (.inl rfl)
    | 4, _ =>
      have hN : N (cyc w ((cx : Int) + 0) + w * cyc h ((cy : Int) + -1)) = false := hN
      rw [cyc_self hx, cyc_dn hy] at hN
      refine G _ _ hx ?_ hN (.inl ⟨rfl, ?_⟩)
      · split <;> omega
      · simp [dirs] at hn
        split
        · rcases hn with hn | hn
          · exact .inr (.inr (.inr ⟨hn, by omega⟩))
          · omega
        · exact .inr (.inr (.inl (by omega)))

theorem foldN_any {α : Type} (P : Nat → Bool) (k : Nat) (z : α) (s : List α) : ∀ n, foldN (fun j s => if P j = true then s.set k z else s) n s = if (List.range n).any P = true then s.set k z else s
  | 0 => rfl
  | n + 1 => by
    show (if P n = true then (foldN _ n s).set k z else foldN _ n s) = _
    rw [foldN_any P k z s n, List.range_succ, List.any_append]
    cases (List.range n).any P <;> cases hp : P n <;> simp [hp]

/-- how many blocks lie along a side -/
def blocks (w s : Nat) : Nat := (w + s - 1) / s
theorem blocks_bd {w s : Nat} (hw : 1 ≤ w) (hs : 1 ≤ s) : blocks w s ≤ w ∧ 1 ≤ blocks w s ∧ ∀ a, a < w → a / s < blocks w s := by
  unfold blocks
  have e : (w + s - 1) / s = (w - 1) / s + 1 := by rw [show w + s - 1 = (w - 1) + s by omega, Nat.add_div_right _ (by omega)]
  rw [e]
  have hd := Nat.div_le_self (w - 1) s
  have ha : ∀ a, a < w → a / s ≤ (w - 1) / s := fun a ha => Nat.div_le_div_right (by omega)
  generalize (w - 1) / s = q at *
  exact ⟨by omega, by omega, fun a h => Nat.lt_succ_of_le (ha a h)⟩
theorem blocks_eq {w s : Nat} (hw : 1 ≤ w) (hw2 : w ≤ 16) (hs : 1 ≤ s) (hs2 : s ≤ 16) : IntKind.wrap .i64 (Int.tdiv (IntKind.wrap .i64 ((IntKind.wrap .i64 ((w : Int) + (s : Int))) - 1)) (s : Int)) = ((blocks w s : Nat) : Int) := by
  have hb := (blocks_bd hw hs).1
  rw [wrap_small (n := (w : Int) + (s : Int)) (by omega) (by omega), wrap_small (n := (w : Int) + (s : Int) - 1) (by omega) (by omega), show (w : Int) + (s : Int) - 1 = ((w + s - 1 : Nat) : Int) by omega, tdiv_nat]
  show IntKind.wrap .i64 ((blocks w s : Nat) : Int) = _
  exact wrap_small (by omega) (by omega)

theorem block_lt {w h s cx cy : Nat} (hw : 1 ≤ w) (hh : 1 ≤ h) (hs : 1 ≤ s) (hx : cx < w) (hy : cy < h) : cx / s + blocks w s * (cy / s) < blocks w s * blocks h s :=
  row_lt ((blocks_bd hw hs).2.2 cx hx) ((blocks_bd hh hs).2.2 cy hy)

theorem block_eq {w h s cx cy : Nat} (hw : 1 ≤ w) (hh : 1 ≤ h) (hw2 : w ≤ 16) (hh2 : h ≤ 16) (hs : 1 ≤ s) (hx : cx < w) (hy : cy < h) : IntKind.wrap .i64 ((IntKind.wrap .i64 (Int.tdiv (cx : Int) (s : Int))) + (IntKind.wrap .i64 (((blocks w s : Nat) : Int) * (IntKind.wrap .i64 (Int.tdiv (cy : Int) (s : Int)))))) = ((cx / s + blocks w s * (cy / s) : Nat) : Int) := by
  have b1 := blocks_bd hw hs
  have b2 := blocks_bd hh hs
  rw [tdiv_nat, tdiv_nat]
  have q1 := b1.2.2 cx hx
  have q2 := b2.2.2 cy hy
  generalize cx / s = p at *
  generalize cy / s = q at *
  rw [wrap_small (n := (p : Int)) (by omega) (by omega), wrap_small (n := (q : Int)) (by omega) (by omega)]
  exact place_eq (by omega) (by omega) q1 q2

theorem set_true (n k : Nat) (hk : k < n) : (List.replicate k true ++ List.replicate (n - k) false).set k true = List.replicate (k + 1) true ++ List.replicate (n - (k + 1)) false := by
  rw [List.set_append_right _ _ (by simp)]
  simp only [List.length_replicate, Nat.sub_self]
  rw [show n - k = (n - (k + 1)) + 1 by omega, List.replicate_succ, List.set_cons_zero, List.replicate_succ', List.append_assoc]
  rfl

/-- what sleeps -/
noncomputable def sleepF (w h s : Nat) (b : Bool) (N : Nat → Bool) (i : Nat) (B : List Bool) : List Bool := if loudAny w h b N (i % w) (i / w) = true then B.set (i % w / s + blocks w s * (i / w / s)) false else B
noncomputable def sleepL (w h s : Nat) (b : Bool) (N : Nat → Bool) : List Bool := foldN (sleepF w h s b N) (w * h) (List.replicate (blocks w s * blocks h s) true)

section
variable {w h s : Nat} (b : Bool) (l m e x y : List (Option Nat)) (w1 : 3 ≤ w) (w2 : w ≤ 16) (k1 : 3 ≤ h) (k2 : h ≤ 16) (s1 : 1 ≤ s) (s2 : s ≤ 16) (le : e.length = w * h) (lx : x.length = w * h) (ly : y.length = w * h)
include w1 w2 k1 k2 s1 s2 le lx ly

theorem spec_sleep : spec_l07Sleep w h b l m e x y s = some (sleepL w h s b (nothingV e x y)) ∧ (sleepL w h s b (nothingV e x y)).length = blocks w s * blocks h s := by
  have hn := area_le w2 k2
  have bw := blocks_bd (show 1 ≤ w by omega) s1
  have bh := blocks_bd (show 1 ≤ h by omega) s1
  have hbn := area_le (show blocks w s ≤ 16 by omega) (show blocks h s ≤ 16 by omega)
  unfold spec_l07Sleep spec_l07Blocks
  rw [if_neg (by omega), if_neg (by omega), blocks_eq (by omega) w2 s1 s2, blocks_eq (by omega) k2 s1 s2, some_bind']
  simp only
  rw [area_eq (show blocks w s ≤ 16 by omega) (show blocks h s ≤ 16 by omega), if_pos ⟨by omega, by omega⟩]
  have A := loop_fold (step := fun (q : (Int × (List (Bool)))) => spec_l07Sleep.s0 (((blocks w s : Nat) : Int), ((blocks h s : Nat) : Int)) q.1 q.2) (fun (_ : Unit) k => ((k : Int), List.replicate k true ++ List.replicate (blocks w s * blocks h s - k) false)) (fun _ u => u) (fun _ _ => True) (blocks w s * blocks h s) (fun _ => (((blocks w s * blocks h s : Nat) : Int), false, List.replicate (blocks w s * blocks h s) true)) () trivial (fun k u hk _ => by
    refine ⟨?_, trivial⟩
    show spec_l07Sleep.s0 (((blocks w s : Nat) : Int), ((blocks h s : Nat) : Int)) (k : Int) (List.replicate k true ++ List.replicate (blocks w s * blocks h s - k) false) = _
    unfold spec_l07Sleep.s0
    simp only [area_eq (show blocks w s ≤ 16 by omega) (show blocks h s ≤ 16 by omega), Int.toNat_natCast, List.length_replicate]
    have hlen : k < (List.replicate k true ++ List.replicate (blocks w s * blocks h s - k) false).length := by simp; omega
    rw [if_pos (by simp; omega), idx_nat, List.getElem?_eq_getElem hlen, some_bind', setF_nat hlen, some_bind', one_more (by omega), set_true _ _ hk]) (fun u _ => by
    show spec_l07Sleep.s0 (((blocks w s : Nat) : Int), ((blocks h s : Nat) : Int)) ((blocks w s * blocks h s : Nat) : Int) (List.replicate (blocks w s * blocks h s) true ++ List.replicate (blocks w s * blocks h s - blocks w s * blocks h s) false) = _
    unfold spec_l07Sleep.s0
    simp only [area_eq (show blocks w s ≤ 16 by omega) (show blocks h s ≤ 16 by omega), Int.toNat_natCast, List.length_replicate]
    rw [if_neg (by simp)]
    simp)
  have A1 := A.1
  simp only [Int.ofNat_zero, List.replicate_zero, List.nil_append, Nat.sub_zero] at A1
  rw [Int.toNat_natCast, A1, some_bind']
  simp only
  have hf : ∀ i B, B.length = blocks w s * blocks h s → (sleepF w h s b (nothingV e x y) i B).length = blocks w s * blocks h s := by
    intro i B hB
    unfold sleepF
    split <;> simp [hB]
  have J : ∀ i, i < w * h → ∀ B : List Bool, B.length = blocks w s * blocks h s → loopF (fun (q : (Int × (List (Bool)))) => spec_l07Sleep.s2 w h b l m e x y s (i : Int) q.1 q.2) (0, B) = some (((w * h : Nat) : Int), false, sleepF w h s b (nothingV e x y) i B) := by
    intro i hi B hB
    have xi : i % w < w := Nat.mod_lt _ (by omega)
    have yi : i / w < h := Nat.div_lt_of_lt_mul hi
    have hblk := block_lt (s := s) (show 1 ≤ w by omega) (show 1 ≤ h by omega) s1 xi yi
    have C := loop_fold (step := fun (q : (Int × (List (Bool)))) => spec_l07Sleep.s2 w h b l m e x y s (i : Int) q.1 q.2) (fun B k => ((k : Int), B)) (fun j B => if (closeTo w h b i j && !nothingV e x y j) = true then B.set (i % w / s + blocks w s * (i / w / s)) false else B) (fun _ B => B.length = blocks w s * blocks h s) (w * h) (fun B => (((w * h : Nat) : Int), false, B)) B hB (fun j B hj hB => by
      refine ⟨?_, by split <;> simp [hB]⟩
      show spec_l07Sleep.s2 w h b l m e x y s (i : Int) (j : Int) B = _
      have xj : j % w < w := Nat.mod_lt _ (by omega)
      have yj : j / w < h := Nat.div_lt_of_lt_mul hj
      obtain ⟨t, t0, t1, t2, t3, t4⟩ := way_eq b w2 xi xj
      obtain ⟨r, r0, r1, r2, r3, r4⟩ := way_eq b k2 yi yj
      have hkl : i % w / s + blocks w s * (i / w / s) < B.length := by rw [hB]; exact hblk
      unfold spec_l07Sleep.s2 spec_l07Block spec_l07Blocks
      have n1 : ¬ ((w : Int) = 0) := by omega
      have n2 : ¬ ((s : Int) = 0) := by omega
      simp only [area_eq w2 k2, tmod_nat, div_eq hi hn, div_eq hj hn, if_neg n1, if_neg n2, t2, r2, some_bind', (nothingV_eq le lx ly hj).2, blocks_eq (show 1 ≤ w by omega) w2 s1 s2, block_eq (show 1 ≤ w by omega) (show 1 ≤ h by omega) w2 k2 s1 xi yi, idx_nat, List.getElem?_eq_getElem hkl, setF_nat hkl, ite_some, one_more (show j ≤ 1000000000 by omega)]
      rw [if_pos (by simp; omega)]
      have hd : decide (IntKind.wrap .i64 (t + r) ≤ 1) = closeTo w h b i j := by
        rw [wrap_small (by omega) (by omega)]
        unfold closeTo
        rw [Bool.eq_iff_iff, decide_eq_true_eq, decide_eq_true_eq, ← r4, ← t4, ← t3, ← r3]
        omega
      rw [hd]
      cases closeTo w h b i j <;> rfl) (fun B hB => by
      show spec_l07Sleep.s2 w h b l m e x y s (i : Int) ((w * h : Nat) : Int) B = _
      unfold spec_l07Sleep.s2
      rw [area_eq w2 k2, if_neg (by simp)]
      simp)
    have C1 := C.1
    simp only [Int.ofNat_zero] at C1
    rw [C1, foldN_any (fun j => closeTo w h b i j && !nothingV e x y j)]
    have := loud_any b (nothingV e x y) w1 k1 xi yi
    rw [Nat.mod_add_div i w] at this
    rw [this]
    rfl
  have D := loop_fold (step := fun (q : (Int × (List (Bool)))) => spec_l07Sleep.s1 w h b l m e x y s q.1 q.2) (fun B k => ((k : Int), B)) (sleepF w h s b (nothingV e x y)) (fun _ B => B.length = blocks w s * blocks h s) (w * h) (fun B => (((w * h : Nat) : Int), false, B)) (List.replicate (blocks w s * blocks h s) true) (by simp) (fun i B hi hB => by
    refine ⟨?_, hf i B hB⟩
    show spec_l07Sleep.s1 w h b l m e x y s (i : Int) B = _
    unfold spec_l07Sleep.s1
    rw [area_eq w2 k2, if_pos (by simp; omega), J i hi B hB]
    simp only [some_bind', one_more (show i ≤ 1000000000 by omega)]) (fun B hB => by
    show spec_l07Sleep.s1 w h b l m e x y s ((w * h : Nat) : Int) B = _
    unfold spec_l07Sleep.s1
    rw [area_eq w2 k2, if_neg (by simp)]
    simp)
  have D1 := D.1
  simp only [Int.ofNat_zero] at D1
  rw [D1]
  exact ⟨rfl, D.2⟩

theorem impl_sleep (h1 : impl_IsField w h b l m e x y = some true) : impl_SleepingBlocks w h b l m e x y s = some (sleepL w h s b (nothingV e x y), true) := by
  have hn := area_le w2 k2
  have bw := blocks_bd (show 1 ≤ w by omega) s1
  have bh := blocks_bd (show 1 ≤ h by omega) s1
  have hbn := area_le (show blocks w s ≤ 16 by omega) (show blocks h s ≤ 16 by omega)
  unfold impl_SleepingBlocks
  rw [h1, (in_eq _ _ _).2, some_bind', some_bind', decide_eq_true (show (s : Int) ≥ 1 by omega), decide_eq_true (show (s : Int) ≤ 16 by omega)]
  simp only [Bool.not_true, Bool.and_self, Bool.false_eq_true, if_false, some_bind']
  rw [if_neg (by omega), if_neg (by omega)]
  have A := loop_fold (step := fun (q : (Int × (List (Bool)))) => impl_SleepingBlocks.s0 w h s q.1 q.2) (fun (_ : Unit) k => ((k : Int), List.replicate k true)) (fun _ u => u) (fun _ _ => True) (blocks w s * blocks h s) (fun _ => (((blocks w s * blocks h s : Nat) : Int), false, List.replicate (blocks w s * blocks h s) true)) () trivial (fun k u hk _ => by
    refine ⟨?_, trivial⟩
    show impl_SleepingBlocks.s0 w h s (k : Int) (List.replicate k true) = _
    unfold impl_SleepingBlocks.s0
    rw [blocks_eq (by omega) w2 s1 s2, blocks_eq (by omega) k2 s1 s2, area_eq (show blocks w s ≤ 16 by omega) (show blocks h s ≤ 16 by omega), if_pos (by simp; omega), if_pos (by simp; omega), one_more (by omega), ← List.replicate_succ']) (fun u _ => by
    show impl_SleepingBlocks.s0 w h s ((blocks w s * blocks h s : Nat) : Int) (List.replicate (blocks w s * blocks h s) true) = _
    unfold impl_SleepingBlocks.s0
    rw [blocks_eq (by omega) w2 s1 s2, blocks_eq (by omega) k2 s1 s2, area_eq (show blocks w s ≤ 16 by omega) (show blocks h s ≤ 16 by omega), if_neg (by simp)]
    simp)
  have A1 := A.1
  simp only [Int.ofNat_zero, List.replicate_zero] at A1
  rw [A1, some_bind']
  simp only
  rw [blocks_eq (by omega) w2 s1 s2]
  have hf : ∀ i B, B.length = blocks w s * blocks h s → (sleepF w h s b (nothingV e x y) i B).length = blocks w s * blocks h s := by
    intro i B hB
    unfold sleepF
    split <;> simp [hB]
  have B := each_fold (C := Int × Int × Bool × (List Bool) × Int × Int) b l m w2 k2
    (step1 := fun yy (q : (Int × Int × Int × Bool × (List Bool) × Int × Int)) => impl_Sheet_each__impl_SleepingBlocks_1.s1 w h b l m l m e x y yy q.1 q.2.1 q.2.2.1 q.2.2.2.1 q.2.2.2.2.1 q.2.2.2.2.2.1 q.2.2.2.2.2.2)
    (step0 := fun (q : (Int × Int × Int × Bool × (List Bool) × Int × Int)) => impl_Sheet_each__impl_SleepingBlocks_1.s0 w h b l m l m e x y q.1 q.2.1 q.2.2.1 q.2.2.2.1 q.2.2.2.2.1 q.2.2.2.2.2.1 q.2.2.2.2.2.2)
    (fun xx yy i c => impl_SleepingBlocks_1_2 xx yy i c.1 c.2.1 c.2.2.1 l m e x y c.2.2.2.1 c.2.2.2.2.1 c.2.2.2.2.2) (fun _ _ _ => rfl) (fun _ _ => rfl)
    (fun B => ((w : Int), (h : Int), b, B, (s : Int), ((blocks w s : Nat) : Int))) (sleepF w h s b (nothingV e x y)) (fun _ B => B.length = blocks w s * blocks h s) (fun xx yy hx hy B hB => by
      refine ⟨?_, hf _ B hB⟩
      have hblk := block_lt (s := s) (show 1 ≤ w by omega) (show 1 ≤ h by omega) s1 hx hy
      have hkl : xx / s + blocks w s * (yy / s) < B.length := by rw [hB]; exact hblk
      show impl_SleepingBlocks_1_2 xx yy ((xx + w * yy : Nat) : Int) w h b l m e x y B s ((blocks w s : Nat) : Int) = _
      unfold impl_SleepingBlocks_1_2
      have n2 : ¬ ((s : Int) = 0) := by omega
      simp only [quiet_eq b l m e x y w1 w2 k1 k2 le lx ly hx hy, some_bind', if_neg n2, block_eq (show 1 ≤ w by omega) (show 1 ≤ h by omega) w2 k2 s1 hx hy, idx_nat, List.getElem?_eq_getElem hkl, setF_nat hkl, Bool.not_not, ite_some]
      unfold sleepF
      rw [cell_mod hx, cell_div hx]) (List.replicate (blocks w s * blocks h s) true) (by simp)
  unfold impl_Sheet_each__impl_SleepingBlocks_1
  have B1 := B.1
  rw [B1]
  rfl
end

theorem sleeping_eq (a0 a1 : Int) (a2 : Bool) (a3 a4 e x y : List (Option Nat)) (p : Int) (h3 : a3.length ≤ 1000000000) (h4 : a4.length ≤ 1000000000) : ∃ r : List Bool × Bool, r.1.length ≤ 256 ∧ spec_SleepingBlocks a0 a1 a2 a3 a4 e x y p = some r ∧ impl_SleepingBlocks a0 a1 a2 a3 a4 e x y p = some r := by
  unfold spec_SleepingBlocks
  obtain ⟨v, e1, e2⟩ := field_eq a0 a1 a2 a3 a4 e x y h3 h4
  rw [e1, (in_eq _ _ _).1]
  cases v with
  | false =>
    refine ⟨([], false), by simp, by simp, ?_⟩
    unfold impl_SleepingBlocks
    rw [e2]; rfl
  | true =>
    cases hc : (decide (p ≥ 1) && decide (p ≤ 16)) with
    | false =>
      refine ⟨([], false), by simp, by simp, ?_⟩
      unfold impl_SleepingBlocks
      rw [e2, (in_eq _ _ _).2, hc]; rfl
    | true =>
      obtain ⟨w, h, rfl, rfl, w1, w2, k1, k2, le, lx, ly, hv⟩ := field_num e2
      rw [Bool.and_eq_true, decide_eq_true_eq, decide_eq_true_eq] at hc
      obtain ⟨s, rfl⟩ := Int.eq_ofNat_of_zero_le (show 0 ≤ p by omega)
      have s1 : 1 ≤ s := by omega
      have s2 : s ≤ 16 := by omega
      obtain ⟨q1, q2⟩ := spec_sleep (s := s) a2 a3 a4 e x y w1 w2 k1 k2 s1 s2 le lx ly
      have q3 := impl_sleep (s := s) a2 a3 a4 e x y w1 w2 k1 k2 s1 s2 le lx ly e2
      refine ⟨_, ?_, ?_, q3⟩
      · simp only
        rw [q2]
        exact area_le (Nat.le_trans (blocks_bd (by omega) s1).1 w2) (Nat.le_trans (blocks_bd (by omega) s1).1 k2)
      · simp only [some_bind', Bool.not_true, Bool.false_eq_true, if_false, q1]
end Go.H
