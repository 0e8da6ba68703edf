/- Blocks that sleep: the program's. -/
import Derived.Test.YthccgmjanoeohaaGSleepI
import Derived.Test.YthccgmjanoeohaaPCells
import Derived.Test.YthccgmjanoeohaaPField2
set_option linter.unusedVariables false
namespace Go.H
open Go Ieee

theorem bitsOf_some (x : Option Nat) : ∃ n, impl_BitsOf x = some n := by
  unfold impl_BitsOf
  cases hx : fcmp .neq .f32 x x with
  | true => exact ⟨_, rfl⟩
  | false =>
    cases x with
    | none => exact absurd hx (by decide)
    | some b => exact ⟨_, rfl⟩

/-- nothing but +0 -/
def Zb (x : Option Nat) : Prop := impl_BitsOf x = some 0

theorem nothing_eq {n j : Nat} (e x y : List (Option Nat)) (le : e.length = n) (lx : x.length = n) (ly : y.length = n) (hj : j < n) : ∃ v, impl_isNothing e x y (j : Int) = some v ∧ (v = true → Zb (e[j]?.getD none) ∧ Zb (x[j]?.getD none) ∧ Zb (y[j]?.getD none)) := by
  have i1 : j < e.length := by omega
  have i2 : j < x.length := by omega
  have i3 : j < y.length := by omega
  obtain ⟨n1, a1⟩ := bitsOf_some e[j]
  obtain ⟨n2, a2⟩ := bitsOf_some x[j]
  obtain ⟨n3, a3⟩ := bitsOf_some y[j]
  unfold impl_isNothing Zb
  simp only [idx_nat, List.getElem?_eq_getElem i1, List.getElem?_eq_getElem i2, List.getElem?_eq_getElem i3, some_bind', a1, a2, a3, ite_andB, Option.getD_some]
  refine ⟨_, rfl, fun h => ?_⟩
  simp only [Bool.and_eq_true, beq_iff_eq] at h
  obtain ⟨rfl, rfl, rfl⟩ := h
  exact ⟨rfl, rfl, rfl⟩

/-- whether nothing is in a cell -/
noncomputable def nothingV (e x y : List (Option Nat)) (j : Nat) : Bool := (impl_isNothing e x y (j : Int)).getD true
theorem nothingV_eq {n j : Nat} {e x y : List (Option Nat)} (le : e.length = n) (lx : x.length = n) (ly : y.length = n) (hj : j < n) : impl_isNothing e x y (j : Int) = some (nothingV e x y j) ∧ (nothingV e x y j = true → Zb (e[j]?.getD none) ∧ Zb (x[j]?.getD none) ∧ Zb (y[j]?.getD none)) := by
  obtain ⟨v, h1, h2⟩ := nothing_eq e x y le lx ly hj
  unfold nothingV
  rw [h1]
  exact ⟨rfl, h2⟩

/-- a coordinate that may lie one step outside, brought inside -/
def cyc (w : Nat) (u : Int) : Nat := if u = -1 then w - 1 else if u = w then 0 else u.toNat

theorem cyc_eq {w : Nat} {u : Int} (hw0 : 1 ≤ w) (hw : w ≤ 16) (hu : -1 ≤ u ∧ u ≤ w) : Int.tmod (IntKind.wrap .i64 (u + (w : Int))) (w : Int) = ((cyc w u : Nat) : Int) ∧ cyc w u < w := by
  rw [wrap_small (by omega) (by omega)]
  unfold cyc
  by_cases h1 : u = -1
  · subst h1
    rw [if_pos rfl, show (-1 : Int) + (w : Int) = ((w - 1 : Nat) : Int) by omega]
    refine ⟨?_, by omega⟩
    show (((w - 1) % w : Nat) : Int) = _
    rw [Nat.mod_eq_of_lt (by omega)]
  · rw [if_neg h1]
    by_cases h2 : u = w
    · subst h2
      rw [if_pos rfl, show (w : Int) + (w : Int) = ((w + w : Nat) : Int) by omega]
      refine ⟨?_, by omega⟩
      show (((w + w) % w : Nat) : Int) = _
      simp
    · rw [if_neg h2]
      obtain ⟨k, rfl⟩ := Int.eq_ofNat_of_zero_le (show 0 ≤ u by omega)
      rw [show (k : Int) + (w : Int) = ((k + w : Nat) : Int) by omega]
      have hk : k < w := by omega
      refine ⟨?_, by simpa using hk⟩
      show (((k + w) % w : Nat) : Int) = _
      rw [Nat.add_mod_right, Nat.mod_eq_of_lt hk]
      simp

theorem at_cyc {w h : Nat} {u v : Int} (b : Bool) (l m : List (Option Nat)) (w0 : 1 ≤ w) (hw : w ≤ 16) (h0 : 1 ≤ h) (hh : h ≤ 16) (hu : -1 ≤ u ∧ u ≤ w) (hv : -1 ≤ v ∧ v ≤ h) : impl_Sheet_at w h b l m u v = some ((cyc w u + w * cyc h v : Nat) : Int) ∧ cyc w u + w * cyc h v < w * h := by
  obtain ⟨a1, a2⟩ := cyc_eq w0 hw hu
  obtain ⟨b1, b2⟩ := cyc_eq h0 hh hv
  refine ⟨?_, row_lt a2 b2⟩
  unfold impl_Sheet_at
  rw [if_neg (by omega), if_neg (by omega), a1, b1, place_eq hw hh a2 b2]

theorem cyc_self {w c : Nat} (hc : c < w) : cyc w ((c : Int) + 0) = c := by
  unfold cyc; rw [if_neg (by omega), if_neg (by omega)]; omega
theorem cyc_up {w c : Nat} (hc : c < w) : cyc w ((c : Int) + 1) = if c + 1 = w then 0 else c + 1 := by
  unfold cyc; rw [if_neg (by omega)]; split <;> split <;> omega
theorem cyc_dn {w c : Nat} (hc : c < w) : cyc w ((c : Int) + -1) = if c = 0 then w - 1 else c - 1 := by
  unfold cyc; split <;> split <;> (try split) <;> omega

def dirs : List (Int × Int) := [(0, 0), (1, 0), (-1, 0), (0, 1), (0, -1)]
def near (w h : Nat) (b : Bool) (u v : Int) : Bool := b || ((decide (u ≥ 0) && decide (u ≤ (w : Int) - 1)) && (decide (v ≥ 0) && decide (v ≤ (h : Int) - 1)))
/-- beside the cell lies something, in direction k -/
def loud (w h : Nat) (b : Bool) (N : Nat → Bool) (cx cy k : Nat) : Bool :=
  near w h b ((cx : Int) + (dirs.getD k (0, 0)).1) ((cy : Int) + (dirs.getD k (0, 0)).2) && !N (cyc w ((cx : Int) + (dirs.getD k (0, 0)).1) + w * cyc h ((cy : Int) + (dirs.getD k (0, 0)).2))
def loudAny (w h : Nat) (b : Bool) (N : Nat → Bool) (cx cy : Nat) : Bool := (List.range 5).any (loud w h b N cx cy)

theorem dirs_bd : ∀ k, k < 5 → dirs[k]? = some (dirs.getD k (0, 0)) ∧ -1 ≤ (dirs.getD k (0, 0)).1 ∧ (dirs.getD k (0, 0)).1 ≤ 1 ∧ -1 ≤ (dirs.getD k (0, 0)).2 ∧ (dirs.getD k (0, 0)).2 ≤ 1 := by decide

theorem isCell_eq {w h : Nat} (b : Bool) (l m : List (Option Nat)) (hw : w ≤ 16) (hh : h ≤ 16) (u v : Int) : impl_Sheet_isCell w h b l m u v = some ((decide (u ≥ 0) && decide (u ≤ (w : Int) - 1)) && (decide (v ≥ 0) && decide (v ≤ (h : Int) - 1))) := by
  unfold impl_Sheet_isCell
  rw [wrap_small (n := (w : Int) - 1) (by omega) (by omega), wrap_small (n := (h : Int) - 1) (by omega) (by omega)]
  simp only [(in_eq _ _ _).2, some_bind', ite_andB]

section
variable {w h : Nat} (b : Bool) (l m e x y : List (Option Nat)) (w1 : 3 ≤ w) (w2 : w ≤ 16) (k1 : 3 ≤ h) (k2 : h ≤ 16) (le : e.length = w * h) (lx : x.length = w * h) (ly : y.length = w * h)
include w1 w2 k1 k2 le lx ly

theorem quiet_eq {cx cy : Nat} (hx : cx < w) (hy : cy < h) : impl_isQuiet w h b l m e x y cx cy = some (!loudAny w h b (nothingV e x y) cx cy) := by
  unfold impl_isQuiet
  have A := loop_all' (step := fun (s : (Bool × Int)) => impl_isQuiet.s0 w h b l m e x y cx cy s.1 s.2) (n := 5) (loud w h b (nothingV e x y) cx cy) false (false, 5, false) (fun k hk => by
    show impl_isQuiet.s0 w h b l m e x y cx cy false (k : Int) = _
    unfold impl_isQuiet.s0
    obtain ⟨d0, d1, d2, d3, d4⟩ := dirs_bd k hk
    have d0' : idx [((0 : Int), (0 : Int)), (1, 0), ((-1), 0), (0, 1), (0, (-1))] (k : Int) = some (dirs.getD k (0, 0)) := by rw [idx_nat]; exact d0
    rw [if_pos (by simp; omega), d0', some_bind']
    unfold loud
    generalize dirs.getD k (0, 0) = d at *
    rw [wrap_small (n := (cx : Int) + d.1) (by omega) (by omega), wrap_small (n := (cy : Int) + d.2) (by omega) (by omega)]
    obtain ⟨a1, a2⟩ := at_cyc (u := (cx : Int) + d.1) (v := (cy : Int) + d.2) b l m (by omega) w2 (by omega) k2 ⟨by omega, by omega⟩ ⟨by omega, by omega⟩
    simp only [a1, some_bind', (nothingV_eq le lx ly a2).1, isCell_eq b l m w2 k2, ite_andB, one_more (show k ≤ 1000000000 by omega)]
    unfold near
    cases b with
    | true => simp only [if_true, some_bind', Bool.true_or, Bool.true_and, ite_some]
    | false => simp only [Bool.false_eq_true, if_false, some_bind', Bool.false_or, ite_some]) (by
    show impl_isQuiet.s0 w h b l m e x y cx cy false 5 = _
    unfold impl_isQuiet.s0
    rw [if_neg (by decide)]
    rfl)
  have A' : loopF (fun (s : (Bool × Int)) => impl_isQuiet.s0 w h b l m e x y cx cy s.1 s.2) (false, 0) = _ := A
  rw [A', some_bind']
  unfold loudAny
  cases (List.range 5).any (loud w h b (nothingV e x y) cx cy) <;> rfl
end

/-- how many blocks lie along a side -/
def blocks (w s : Nat) : Nat := (w + s - 1) / s
theorem blocks_bd {w s : Nat} (hw : 1 ≤ w) (hs : 1 ≤ s) : blocks w s ≤ w ∧ 1 ≤ blocks w s ∧ ∀ a, a < w → a / s < blocks w s := by
  unfold blocks
  have e : (w + s - 1) / s = (w - 1) / s + 1 := by rw [show w + s - 1 = (w - 1) + s by omega, Nat.add_div_right _ (by omega)]
  rw [e]
  have hd := Nat.div_le_self (w - 1) s
  have ha : ∀ a, a < w → a / s ≤ (w - 1) / s := fun a ha => Nat.div_le_div_right (by omega)
  generalize (w - 1) / s = q at *
  exact ⟨by omega, by omega, fun a h => Nat.lt_succ_of_le (ha a h)⟩
theorem blocks_eq {w s : Nat} (hw : 1 ≤ w) (hw2 : w ≤ 16) (hs : 1 ≤ s) (hs2 : s ≤ 16) : IntKind.wrap .i64 (Int.tdiv (IntKind.wrap .i64 ((IntKind.wrap .i64 ((w : Int) + (s : Int))) - 1)) (s : Int)) = ((blocks w s : Nat) : Int) := by
  have hb := (blocks_bd hw hs).1
  rw [wrap_small (n := (w : Int) + (s : Int)) (by omega) (by omega), wrap_small (n := (w : Int) + (s : Int) - 1) (by omega) (by omega), show (w : Int) + (s : Int) - 1 = ((w + s - 1 : Nat) : Int) by omega, tdiv_nat]
  show IntKind.wrap .i64 ((blocks w s : Nat) : Int) = _
  exact wrap_small (by omega) (by omega)

theorem block_lt {w h s cx cy : Nat} (hw : 1 ≤ w) (hh : 1 ≤ h) (hs : 1 ≤ s) (hx : cx < w) (hy : cy < h) : cx / s + blocks w s * (cy / s) < blocks w s * blocks h s :=
  row_lt ((blocks_bd hw hs).2.2 cx hx) ((blocks_bd hh hs).2.2 cy hy)

theorem block_eq {w h s cx cy : Nat} (hw : 1 ≤ w) (hh : 1 ≤ h) (hw2 : w ≤ 16) (hh2 : h ≤ 16) (hs : 1 ≤ s) (hx : cx < w) (hy : cy < h) : IntKind.wrap .i64 ((IntKind.wrap .i64 (Int.tdiv (cx : Int) (s : Int))) + (IntKind.wrap .i64 (((blocks w s : Nat) : Int) * (IntKind.wrap .i64 (Int.tdiv (cy : Int) (s : Int)))))) = ((cx / s + blocks w s * (cy / s) : Nat) : Int) := by
  have b1 := blocks_bd hw hs
  have b2 := blocks_bd hh hs
  rw [tdiv_nat, tdiv_nat]
  have q1 := b1.2.2 cx hx
  have q2 := b2.2.2 cy hy
  generalize cx / s = p at *
  generalize cy / s = q at *
  rw [wrap_small (n := (p : Int)) (by omega) (by omega), wrap_small (n := (q : Int)) (by omega) (by omega)]
  exact place_eq (by omega) (by omega) q1 q2

/-- what sleeps -/
noncomputable def sleepF (w h s : Nat) (b : Bool) (N : Nat → Bool) (i : Nat) (B : List Bool) : List Bool := if loudAny w h b N (i % w) (i / w) = true then B.set (i % w / s + blocks w s * (i / w / s)) false else B
noncomputable def sleepL (w h s : Nat) (b : Bool) (N : Nat → Bool) : List Bool := foldN (sleepF w h s b N) (w * h) (List.replicate (blocks w s * blocks h s) true)

section
variable {w h s : Nat} (b : Bool) (l m e x y : List (Option Nat)) (w1 : 3 ≤ w) (w2 : w ≤ 16) (k1 : 3 ≤ h) (k2 : h ≤ 16) (s1 : 1 ≤ s) (s2 : s ≤ 16) (le : e.length = w * h) (lx : x.length = w * h) (ly : y.length = w * h)
include w1 w2 k1 k2 s1 s2 le lx ly

theorem impl_sleep (h1 : impl_IsField w h b l m e x y = some true) : impl_SleepingBlocks w h b l m e x y s = some (sleepL w h s b (nothingV e x y), true) := by
  have hn := area_le w2 k2
  have bw := blocks_bd (show 1 ≤ w by omega) s1
  have bh := blocks_bd (show 1 ≤ h by omega) s1
  have hbn := area_le (show blocks w s ≤ 16 by omega) (show blocks h s ≤ 16 by omega)
  unfold impl_SleepingBlocks
  rw [h1, (in_eq _ _ _).2, some_bind', some_bind', decide_eq_true (show (s : Int) ≥ 1 by omega), decide_eq_true (show (s : Int) ≤ 16 by omega)]
  simp only [Bool.not_true, Bool.and_self, Bool.false_eq_true, if_false, some_bind']
  rw [if_neg (by omega), if_neg (by omega)]
  have A := loop_fold (step := fun (q : (Int × (List (Bool)))) => impl_SleepingBlocks.s0 w h s q.1 q.2) (fun (_ : Unit) k => ((k : Int), List.replicate k true)) (fun _ u => u) (fun _ _ => True) (blocks w s * blocks h s) (fun _ => (((blocks w s * blocks h s : Nat) : Int), false, List.replicate (blocks w s * blocks h s) true)) () trivial (fun k u hk _ => by
    refine ⟨?_, trivial⟩
    show impl_SleepingBlocks.s0 w h s (k : Int) (List.replicate k true) = _
    unfold impl_SleepingBlocks.s0
    rw [blocks_eq (by omega) w2 s1 s2, blocks_eq (by omega) k2 s1 s2, area_eq (show blocks w s ≤ 16 by omega) (show blocks h s ≤ 16 by omega), if_pos (by simp; omega), if_pos (by simp; omega), one_more (by omega), ← List.replicate_succ']) (fun u _ => by
    show impl_SleepingBlocks.s0 w h s ((blocks w s * blocks h s : Nat) : Int) (List.replicate (blocks w s * blocks h s) true) = _
    unfold impl_SleepingBlocks.s0
    rw [blocks_eq (by omega) w2 s1 s2, blocks_eq (by omega) k2 s1 s2, area_eq (show blocks w s ≤ 16 by omega) (show blocks h s ≤ 16 by omega), if_neg (by simp)]
    simp)
  have A1 := A.1
  simp only [Int.ofNat_zero, List.replicate_zero] at A1
  rw [A1, some_bind']
  simp only
  rw [blocks_eq (by omega) w2 s1 s2]
  have hf : ∀ i B, B.length = blocks w s * blocks h s → (sleepF w h s b (nothingV e x y) i B).length = blocks w s * blocks h s := by
    intro i B hB
    unfold sleepF
    split <;> simp [hB]
  have B := each_fold (C := Int × Int × Bool × (List Bool) × Int × Int) b l m w2 k2
    (step1 := fun yy (q : (Int × Int × Int × Bool × (List Bool) × Int × Int)) => impl_Sheet_each__impl_SleepingBlocks_1.s1 w h b l m l m e x y yy q.1 q.2.1 q.2.2.1 q.2.2.2.1 q.2.2.2.2.1 q.2.2.2.2.2.1 q.2.2.2.2.2.2)
    (step0 := fun (q : (Int × Int × Int × Bool × (List Bool) × Int × Int)) => impl_Sheet_each__impl_SleepingBlocks_1.s0 w h b l m l m e x y q.1 q.2.1 q.2.2.1 q.2.2.2.1 q.2.2.2.2.1 q.2.2.2.2.2.1 q.2.2.2.2.2.2)
    (fun xx yy i c => impl_SleepingBlocks_1_2 xx yy i c.1 c.2.1 c.2.2.1 l m e x y c.2.2.2.1 c.2.2.2.2.1 c.2.2.2.2.2) (fun _ _ _ => rfl) (fun _ _ => rfl)
    (fun B => ((w : Int), (h : Int), b, B, (s : Int), ((blocks w s : Nat) : Int))) (sleepF w h s b (nothingV e x y)) (fun _ B => B.length = blocks w s * blocks h s) (fun xx yy hx hy B hB => by
      refine ⟨?_, hf _ B hB⟩
      have hblk := block_lt (s := s) (show 1 ≤ w by omega) (show 1 ≤ h by omega) s1 hx hy
      have hkl : xx / s + blocks w s * (yy / s) < B.length := by rw [hB]; exact hblk
      show impl_SleepingBlocks_1_2 xx yy ((xx + w * yy : Nat) : Int) w h b l m e x y B s ((blocks w s : Nat) : Int) = _
      unfold impl_SleepingBlocks_1_2
      have n2 : ¬ ((s : Int) = 0) := by omega
      simp only [quiet_eq b l m e x y w1 w2 k1 k2 le lx ly hx hy, some_bind', if_neg n2, block_eq (show 1 ≤ w by omega) (show 1 ≤ h by omega) w2 k2 s1 hx hy, idx_nat, List.getElem?_eq_getElem hkl, setF_nat hkl, Bool.not_not, ite_some]
      unfold sleepF
      rw [cell_mod hx, cell_div hx]) (List.replicate (blocks w s * blocks h s) true) (by simp)
  unfold impl_Sheet_each__impl_SleepingBlocks_1
  have B1 := B.1
  rw [B1]
  rfl
end

end Go.H
