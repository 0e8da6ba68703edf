/- A wall with slits: the plain law. -/
import Derived.Test.YtohfgnjmgipehaaGSlitSheet
set_option linter.unusedVariables false
namespace Go.H
open Go Ieee

/-- a loop that looks for the first place that is bad -/
theorem loop_scan {St E : Type} {step : St → Option (St ⊕ E)} (P : Nat → St) (bad : Nat → Bool) (n : Nat) (r e : E)
    (hs : ∀ k, k < n → (∀ j, j < k → bad j = false) → step (P k) = some (if bad k = true then .inr r else .inl (P (k + 1))))
    (he : (∀ j, j < n → bad j = false) → step (P n) = some (.inr e)) : loopF step (P 0) = some (if (List.range n).any bad = true then r else e) := by
  have key : ∀ m, m ≤ n → (∀ k, k < n - m → bad k = false) → loopF step (P (n - m)) = some (if (List.range n).any bad = true then r else e) := by
    intro m
    induction m with
    | zero =>
      intro _ hb
      have h0 : (List.range n).any bad = false := by
        rw [List.any_eq_false]
        intro k hk
        have := hb k (by simpa using hk)
        simp [this]
      rw [h0]
      exact loopF_stop (he fun j hj => hb j (by omega))
    | succ m ih =>
      intro hm hb
      have h1 := hs (n - (m + 1)) (by omega) hb
      cases hk : bad (n - (m + 1)) with
      | true =>
        rw [hk] at h1
        have h0 : (List.range n).any bad = true := List.any_eq_true.2 ⟨_, List.mem_range.2 (by omega), hk⟩
        rw [h0]
        exact loopF_stop h1
      | false =>
        rw [hk] at h1
        have e1 : n - (m + 1) + 1 = n - m := by omega
        rw [e1] at h1
        rw [loopF_next h1]
        exact ih (by omega) (fun k hk' => by
          by_cases h : k = n - (m + 1)
          · rw [h]; exact hk
          · exact hb k (by omega))
  have := key n (Nat.le_refl _) (fun k hk => by omega)
  rw [Nat.sub_self] at this
  exact this

theorem fill_set' {α : Type} (l : List α) (z : α) (k : Nat) (h : k < l.length) : (l.take k ++ List.replicate (l.length - k) z).set k l[k] = l.take (k + 1) ++ List.replicate (l.length - (k + 1)) z := by
  have e1 : (l.take k).length = k := by simp; omega
  rw [List.set_append_right _ _ (by omega), e1, Nat.sub_self]
  have e2 : l.length - k = (l.length - (k + 1)) + 1 := by omega
  rw [e2, List.replicate_succ, List.set_cons_zero, List.take_succ_eq_append_getElem h, List.append_assoc]
  rfl

theorem toInt64S_eq (a : List Int) (h : a.length ≤ 1000000000) : laws_toInt64S a = some a := by
  unfold laws_toInt64S
  rw [if_pos ⟨by omega, by omega⟩, Int.toNat_natCast]
  have st := loopF_upto (step := fun (s : (Int × (List (Int)))) => laws_toInt64S.s0 a s.1 s.2) (fun k => ((k : Int), a.take k ++ List.replicate (a.length - k) 0)) a.length (fun k hk => by
    dsimp only
    unfold laws_toInt64S.s0
    have hl : k < (a.take k ++ List.replicate (a.length - k) (0 : Int)).length := by simp; omega
    rw [if_pos (by simp; omega), idx_nat, idx_nat, List.getElem?_eq_getElem hk, List.getElem?_eq_getElem hl]
    simp only [Option.bind_some]
    rw [setF_nat hl, Option.bind_some, fill_set' _ _ _ hk, wrap_small (by omega) (by omega)]
    rfl)
  simp only [List.take_zero, Nat.sub_zero, List.nil_append, Nat.sub_self, List.replicate_zero, List.append_nil, List.take_length] at st
  have e0 : ((0 : Nat) : Int) = 0 := rfl
  rw [e0] at st
  rw [st]
  have hs : loopF (fun (s : (Int × (List (Int)))) => laws_toInt64S.s0 a s.1 s.2) ((a.length : Int), a) = some ((a.length : Int), decide ((a.length : Int) < (a.length : Int)), a) := by
    apply loopF_stop
    show laws_toInt64S.s0 a (a.length : Int) a = _
    unfold laws_toInt64S.s0
    rw [if_neg (by simp)]
  rw [hs]
  rfl

theorem has_some (a : List Int) (v : Int) (h : a.length ≤ 1000) : spec_l00Has a v = some (a.any (· == v)) := by
  unfold spec_l00Has
  have A := loop_scan (step := fun (s : (Bool × Int)) => spec_l00Has.s0 a v s.1 s.2) (fun k => (false, (k : Int))) (fun k => a[k]?.getD 0 == v) a.length (.inr true) (.inl (false, (a.length : Int), false)) (fun k hk _ => by
    show spec_l00Has.s0 a v false (k : Int) = _
    unfold spec_l00Has.s0
    rw [if_pos (by simp; omega), idx_nat, List.getElem?_eq_getElem hk, some_bind', Option.getD_some, one_more (by omega)]
    cases a[k] == v <;> rfl) (fun _ => by
    show spec_l00Has.s0 a v false (a.length : Int) = _
    unfold spec_l00Has.s0
    rw [if_neg (by simp)]
    simp)
  simp only [Int.ofNat_zero] at A
  rw [A]
  have e : ((List.range a.length).any fun k => a[k]?.getD 0 == v) = a.any (· == v) := by
    rw [Bool.eq_iff_iff, List.any_eq_true, List.any_eq_true]
    constructor
    · rintro ⟨k, hk, h1⟩
      have hk := List.mem_range.1 hk
      rw [List.getElem?_eq_getElem hk] at h1
      exact ⟨a[k], List.getElem_mem hk, h1⟩
    · rintro ⟨x, hx, h1⟩
      obtain ⟨k, hk, rfl⟩ := List.getElem_of_mem hx
      exact ⟨k, List.mem_range.2 hk, by rw [List.getElem?_eq_getElem hk]; exact h1⟩
  rw [e]
  cases a.any (· == v) <;> rfl

theorem mapGet_any (a : List Int) (v : Int) : mapGet (a.map fun x => (x, true)) v = a.any (· == v) := by
  unfold mapGet
  induction a with
  | nil => rfl
  | cons x a ih =>
    rw [List.map_cons, List.find?_cons, List.any_cons]
    cases h : x == v with
    | true => simp [h]
    | false => simpa [h] using ih

/-- a place whose number doesn't go on rising -/
def badAt (a : List Int) (h : Nat) (k : Nat) : Bool := !(decide (a[k]?.getD 0 ≥ 0) && decide (a[k]?.getD 0 ≤ (h : Int) - 1)) || (decide (0 < k) && decide (a[k - 1]?.getD 0 ≥ a[k]?.getD 0))

theorem bad_less {a : List Int} {h k : Nat} (hb : ∀ i, i ≤ k → badAt a h i = false) : ∀ j, j < k → a[j]?.getD 0 < a[k]?.getD 0 := by
  induction k with
  | zero => intro j hj; omega
  | succ k ih =>
    intro j hj
    have h1 := hb (k + 1) (Nat.le_refl _)
    unfold badAt at h1
    simp only [Nat.add_sub_cancel, Bool.or_eq_false_iff, Bool.and_eq_false_iff, decide_eq_false_iff_not] at h1
    have h2 : a[k]?.getD 0 < a[k + 1]?.getD 0 := by
      rcases h1.2 with h | h <;> omega
    by_cases hjk : j = k
    · subst hjk; exact h2
    · have := ih (fun i hi => hb i (by omega)) j (by omega)
      omega

theorem rises_eq (a : List Int) (h : Nat) (hh : h ≤ 16) (hl : a.length ≤ 8) : spec_l00Rises a 0 ((h : Int) - 1) = some (!(List.range a.length).any (badAt a h)) := by
  unfold spec_l00Rises
  have A := loop_scan (step := fun (s : (Bool × Int)) => spec_l00Rises.s0 a 0 ((h : Int) - 1) s.1 s.2) (fun k => (false, (k : Int))) (badAt a h) a.length (.inr false) (.inl (false, (a.length : Int), false)) (fun k hk _ => by
    show spec_l00Rises.s0 a 0 ((h : Int) - 1) false (k : Int) = _
    have hbad : badAt a h k = (!(decide (a[k] ≥ 0) && decide (a[k] ≤ (h : Int) - 1)) || (decide (0 < k) && decide (a[k - 1]?.getD 0 ≥ a[k]))) := by
      unfold badAt
      rw [List.getElem?_eq_getElem hk]; rfl
    rw [hbad]
    unfold spec_l00Rises.s0
    rw [if_pos (by simp; omega), idx_nat, List.getElem?_eq_getElem hk, some_bind', (in_eq _ _ _).1, some_bind', one_more (show k ≤ 1000000000 by omega)]
    generalize (decide (a[k] ≥ 0) && decide (a[k] ≤ (h : Int) - 1)) = b
    cases b with
    | false => rfl
    | true =>
      cases k with
      | zero => rfl
      | succ k =>
        have hw : IntKind.wrap .i64 (((k + 1 : Nat) : Int) - 1) = (k : Int) := by rw [wrap_small (by omega) (by omega)]; omega
        rw [if_neg (by simp), if_pos (by simp), hw, idx_nat, Nat.add_sub_cancel, List.getElem?_eq_getElem (show k < a.length by omega), some_bind', some_bind', some_bind', Option.getD_some]
        have hd : decide (0 < k + 1) = true := by simp
        rw [hd, Bool.not_true, Bool.false_or, Bool.true_and]
        first | done | (cases decide (a[k] ≥ a[k + 1]) <;> rfl)) (fun _ => by
    show spec_l00Rises.s0 a 0 ((h : Int) - 1) false (a.length : Int) = _
    unfold spec_l00Rises.s0
    rw [if_neg (by simp)]
    simp)
  simp only [Int.ofNat_zero] at A
  rw [A]
  cases (List.range a.length).any (badAt a h) <;> rfl

theorem slits_loop (a : List Int) (h : Nat) (hh : h ≤ 16) (hl : a.length ≤ 8) : ∃ l, loopF (fun (s : (Bool × Int × Int × (List (Int × Bool)))) => impl_SlitSheet.s0 h a s.1 s.2.1 s.2.2.1 s.2.2.2) (false, (-1), 0, ([] : List (Int × Bool))) = some (if (List.range a.length).any (badAt a h) = true then .inr (0, 0, false, ([] : List (Option Nat)), ([] : List (Option Nat)), false) else .inl (false, l, (a.length : Int), false, a.map fun x => (x, true))) := by
  let last := fun k : Nat => if k = 0 then (-1 : Int) else a[k - 1]?.getD 0
  have A := loop_scan (step := fun (s : (Bool × Int × Int × (List (Int × Bool)))) => impl_SlitSheet.s0 h a s.1 s.2.1 s.2.2.1 s.2.2.2) (fun k => (false, last k, (k : Int), (a.take k).map fun x => (x, true))) (badAt a h) a.length (.inr (0, 0, false, ([] : List (Option Nat)), ([] : List (Option Nat)), false)) (.inl (false, last a.length, (a.length : Int), false, a.map fun x => (x, true))) (fun k hk hgood => by
    show impl_SlitSheet.s0 h a false (last k) (k : Int) ((a.take k).map fun x => (x, true)) = _
    have hin : badAt a h k = !(decide (a[k] ≥ last k + 1) && decide (a[k] ≤ (h : Int) - 1)) := by
      unfold badAt
      rw [List.getElem?_eq_getElem hk, Option.getD_some]
      cases k with
      | zero =>
        simp only [last, if_true]
        simp
      | succ k =>
        have hg := hgood k (by omega)
        unfold badAt at hg
        simp only [Bool.or_eq_false_iff, Bool.not_eq_false', Bool.and_eq_true, decide_eq_true_eq] at hg
        have hd : decide (0 < k + 1) = true := by simp
        simp only [last, Nat.add_sub_cancel, hd, Bool.true_and, Nat.add_eq_zero_iff, Nat.one_ne_zero, and_false, if_false]
        rw [Bool.eq_iff_iff]
        simp only [Bool.or_eq_true, Bool.not_eq_true', Bool.and_eq_false_iff, decide_eq_false_iff_not, decide_eq_true_eq]
        omega
    have hlast : last k ≤ (h : Int) - 1 ∧ -1 ≤ last k ∨ k = 0 ∧ last k = -1 := by
      cases k with
      | zero => exact .inr ⟨rfl, rfl⟩
      | succ k =>
        have hg := hgood k (by omega)
        unfold badAt at hg
        simp only [Bool.or_eq_false_iff, Bool.not_eq_false', Bool.and_eq_true, decide_eq_true_eq] at hg
        have e : last (k + 1) = a[k]?.getD 0 := by simp [last]
        rw [e]
        omega
    unfold impl_SlitSheet.s0
    rw [if_pos (by simp; omega), idx_nat, List.getElem?_eq_getElem hk, some_bind', (in_eq _ _ _).2, some_bind', wrap_small (n := last k + 1) (by omega) (by omega), wrap_small (n := (h : Int) - 1) (by omega) (by omega), ← hin]
    cases hb : badAt a h k with
    | true => rfl
    | false =>
      have hless := bad_less (a := a) (h := h) (k := k) (fun i hi => by
        by_cases hik : i = k
        · rw [hik]; exact hb
        · exact hgood i (by omega))
      have hall : ((a.take k).map fun x => (x, true)).all (fun p => p.1 != a[k]) = true := by
        rw [List.all_map, List.all_eq_true]
        intro x hx
        obtain ⟨j, hj, rfl⟩ := List.getElem_of_mem hx
        have hjk : j < k := by simp at hj; omega
        have := hless j hjk
        rw [List.getElem?_eq_getElem (show j < a.length by omega), List.getElem?_eq_getElem hk, Option.getD_some, Option.getD_some] at this
        simp only [Function.comp, List.getElem_take, bne_iff_ne, ne_eq]
        omega
      simp only [Bool.false_eq_true, if_false]
      rw [if_pos hall, one_more (by omega)]
      have e1 : last (k + 1) = a[k] := by simp [last, hk]
      have e2 : (a.take (k + 1)).map (fun x => (x, true)) = (a.take k).map (fun x => (x, true)) ++ [(a[k], true)] := by
        rw [List.take_succ_eq_append_getElem hk, List.map_append]; rfl
      rw [e1, e2]) (fun _ => by
    show impl_SlitSheet.s0 h a false (last a.length) (a.length : Int) ((a.take a.length).map fun x => (x, true)) = _
    unfold impl_SlitSheet.s0
    rw [if_neg (by simp), List.take_length]
    simp)
  exact ⟨last a.length, A⟩

theorem foldN_one {S : Type} (g : Nat → S → S) (x : Nat) (hg : ∀ u t, u ≠ x → g u t = t) : ∀ (n : Nat) (t : S), foldN g n t = if x < n then g x t else t
  | 0, t => rfl
  | n + 1, t => by
    show g n (foldN g n t) = _
    rw [foldN_one g x hg n t]
    by_cases h : n = x
    · subst h
      rw [if_neg (by omega), if_pos (by omega)]
    · rw [hg n _ h]
      by_cases h2 : x < n
      · rw [if_pos h2, if_pos (by omega)]
      · rw [if_neg h2, if_neg (by omega)]

theorem slit_eq (a0 a1 : Int) (a2 : Bool) (a3 a4 : List (Option Nat)) (p : Int) (a : List Int) (h3 : a3.length ≤ 1000000000) (h4 : a4.length ≤ 1000000000) : ∃ r : Int × Int × Bool × List (Option Nat) × List (Option Nat) × Bool, r.2.2.2.1.length ≤ 256 ∧ r.2.2.2.2.1.length ≤ 256 ∧ spec_SlitSheet a0 a1 a2 a3 a4 p a = some r ∧ impl_SlitSheet a0 a1 a2 a3 a4 p a = some r := by
  unfold spec_SlitSheet impl_SlitSheet impl_isValidCell impl_Sheet_isCell
  obtain ⟨v, e1, e2⟩ := is_eq a0 a1 a2 a3 a4 h3 h4
  rw [e1, e2]
  simp only [(in_eq _ _ _).1, (in_eq _ _ _).2, some_bind', ite_andB]
  cases v with
  | false => exact ⟨(0, 0, false, [], [], false), by simp, by simp, by simp, by simp⟩
  | true =>
    obtain ⟨w, h, rfl, rfl, w1, w2, k1, k2, l3, l4⟩ := valid_has e2
    have hn := area_le w2 k2
    rw [wrap_small (n := (w : Int) - 1) (by omega) (by omega), wrap_small (n := (h : Int) - 1) (by omega) (by omega)]
    have hy : (decide ((0 : Int) ≥ 0) && decide ((0 : Int) ≤ (h : Int) - 1)) = true := by simp; omega
    simp only [hy, Bool.and_true, Bool.not_true, Bool.false_eq_true, if_false, Bool.true_and, ite_orB]
    cases hp : (decide (p ≥ 0) && decide (p ≤ (w : Int) - 1)) with
    | false => exact ⟨(0, 0, false, [], [], false), by simp, by simp, by simp, by simp⟩
    | true =>
      cases hl : decide ((a.length : Int) > 8) with
      | true => exact ⟨(0, 0, false, [], [], false), by simp, by simp, by simp, by simp⟩
      | false =>
        have hl : a.length ≤ 8 := by simp at hl; omega
        simp only [Bool.and_eq_true, decide_eq_true_eq] at hp
        obtain ⟨x, rfl⟩ := Int.eq_ofNat_of_zero_le (show 0 ≤ p by omega)
        have hx : x < w := by omega
        obtain ⟨l, hloop⟩ := slits_loop a h k2 hl
        rw [rises_eq a h k2 hl, hloop]
        simp only [some_bind', Bool.not_true, Bool.false_eq_true, if_false, Bool.or_false, Bool.not_not]
        cases (List.range a.length).any (badAt a h) with
        | true => exact ⟨(0, 0, false, [], [], false), by simp, by simp, by simp, by simp⟩
        | false =>
          simp only [Bool.false_eq_true, if_false, some_bind', (own_eq w h a2 a3 a4 h3 h4).1, (own_eq w h a2 a3 a4 h3 h4).2]
          let open_ := fun (y : Nat) => a.any (· == (y : Int))
          let g := fun (y : Nat) (s : List (Option Nat)) => if (!open_ y) = true then s.set (x + w * y) (some 0) else s
          let f := fun (i : Nat) (s : List (Option Nat)) => if (((i % w : Nat) : Int) == (x : Int) && !open_ (i / w)) = true then s.set i (some 0) else s
          have hf : ∀ i s, s.length = w * h → (f i s).length = w * h := by
            intro i s hs
            simp only [f]
            split <;> simp [hs]
          have A := loop_fold (step := fun (s : (Int × (List (Option Nat)))) => spec_SlitSheet.s0 w h x a s.1 s.2) (fun s k => ((k : Int), s)) g (fun _ s => s.length = w * h) h (fun s => ((h : Int), false, s)) a3 l3 (fun y s hy hI => by
            have hlt := row_lt hx hy
            refine ⟨?_, by simp only [g]; split <;> simp [hI]⟩
            show spec_SlitSheet.s0 w h x a (y : Int) s = _
            unfold spec_SlitSheet.s0
            rw [if_pos (by simp; omega), has_some a y (by omega), some_bind', place_eq w2 k2 hx hy, idx_nat, List.getElem?_eq_getElem (show x + w * y < s.length by omega), some_bind', setF_nat (by omega), some_bind', ite_some, some_bind', one_more (by omega)]) (fun s hI => by
            show spec_SlitSheet.s0 w h x a (h : Int) s = _
            unfold spec_SlitSheet.s0
            rw [if_neg (by simp)]
            simp)
          have B := each_fold (C := Int × (List (Int × Bool)) × Int × Int × Bool × (List (Option Nat)) × (List (Option Nat))) a2 a3 a4 w2 k2
            (step1 := fun y (s : (Int × Int × (List (Int × Bool)) × Int × Int × Bool × (List (Option Nat)) × (List (Option Nat)))) => impl_Sheet_each__impl_SlitSheet_1.s1 w h a2 a3 a4 y s.1 s.2.1 s.2.2.1 s.2.2.2.1 s.2.2.2.2.1 s.2.2.2.2.2.1 s.2.2.2.2.2.2.1 s.2.2.2.2.2.2.2)
            (step0 := fun (s : (Int × Int × (List (Int × Bool)) × Int × Int × Bool × (List (Option Nat)) × (List (Option Nat)))) => impl_Sheet_each__impl_SlitSheet_1.s0 w h a2 a3 a4 s.1 s.2.1 s.2.2.1 s.2.2.2.1 s.2.2.2.2.1 s.2.2.2.2.2.1 s.2.2.2.2.2.2.1 s.2.2.2.2.2.2.2)
            (fun u y i c => impl_SlitSheet_1 u y i c.1 c.2.1 c.2.2.1 c.2.2.2.1 c.2.2.2.2.1 c.2.2.2.2.2.1 c.2.2.2.2.2.2) (fun _ _ _ => rfl) (fun _ _ => rfl)
            (fun s => ((x : Int), a.map (fun x => (x, true)), (w : Int), (h : Int), a2, s, a4)) f (fun _ s => s.length = w * h) (fun u y hu hy s hI => by
              refine ⟨?_, hf _ s hI⟩
              have hlt := row_lt hu hy
              show impl_SlitSheet_1 u y ((u + w * y : Nat) : Int) x (a.map fun x => (x, true)) w h a2 s a4 = _
              unfold impl_SlitSheet_1
              rw [mapGet_any, idx_nat, List.getElem?_eq_getElem (show u + w * y < s.length by omega), some_bind', setF_nat (by omega), some_bind']
              have hb : ∀ p q : Bool, (if p = true then q else false) = (p && q) := by decide
              simp only [some_bind', ite_some, hb, f, cell_mod hu, cell_div hu, open_]) a3 l3
          have hsame : foldN f (w * h) a3 = foldN g h a3 := by
            rw [← foldN_rows]
            refine foldN_congr h a3 fun y t hy => ?_
            show foldN (fun u => f (u + w * y)) w t = g y t
            have hstep : ∀ u t, u < w → f (u + w * y) t = if u = x then g y t else t := by
              intro u t hu
              simp only [f, g, cell_mod hu, cell_div hu]
              by_cases hux : u = x
              · subst hux; simp
              · have : ((u : Int) == (x : Int)) = false := by simpa using (show ¬ (u : Int) = (x : Int) by omega)
                rw [this, if_neg hux]; simp
            have h1 : foldN (fun u => f (u + w * y)) w t = foldN (fun u t => if u = x then g y t else t) w t := foldN_congr w t fun u t hu => hstep u t hu
            rw [h1, foldN_one _ x (fun u t hu => if_neg hu), if_pos hx, if_pos rfl]
          rw [hsame] at B
          refine ⟨((w : Int), (h : Int), a2, foldN g h a3, a4, true), ?_, ?_, ?_, ?_⟩
          · have := A.2; simp only; omega
          · simp only; omega
          · have := A.1; simp only [Int.ofNat_zero] at this; rw [this]; rfl
          · unfold impl_Sheet_each__impl_SlitSheet_1
            have := B.1; rw [this]; rfl

theorem laws_FnExactSlitSheet_true (a0 a1 : Int) (a2 : Bool) (a3 a4 : List (Option Nat)) (p : Int) (a : List Int) (h3 : a3.length ≤ 9223372036854775807) (h4 : a4.length ≤ 9223372036854775807) (ha : a.length ≤ 9223372036854775807) : laws_FnExactSlitSheet a0 a1 a2 a3 a4 p a = some true := by
  unfold laws_FnExactSlitSheet
  by_cases hla : (decide ((a.length : Int) > 1048576)) = true
  · rw [if_pos hla]
  · rw [if_neg hla]
    simp only [decide_eq_true_eq] at hla
    rcases szSheet_cases a0 a1 a2 a3 a4 1048576 (by omega) (by omega) h3 h4 with h | ⟨h, hl⟩
    · rw [h]; rfl
    · rw [h, some_bind', if_neg (by simp; omega)]
      obtain ⟨⟨r0, r1, r2, r3, r4, b⟩, q1, q2, e1, e2⟩ := slit_eq a0 a1 a2 a3 a4 p a (by omega) (by omega)
      simp only at q1 q2
      simp only [toSheet_eq a0 a1 a2 a3 a4 (by omega) (by omega), toInt64S_eq a (by omega), e1, e2, some_bind', eqSheet_self r0 r1 r2 r3 r4 (by omega) (by omega), eqSheet_self a0 a1 a2 a3 a4 (by omega) (by omega), eqInt64S_self a (by omega), bne_self_eq_false, Bool.not_true, Bool.false_eq_true, if_false, markSheet_eq a0 a1 a2 a3 a4 1 (by omega) (by omega), markI_eq a (1 + (a3.length : Int) + (a4.length : Int)) (by omega) (by omega), markSheet_eq r0 r1 r2 r3 r4 1 (by omega) (by omega), heldSheet_eq r0 r1 r2 1 r3.length r4.length (by omega) (by omega), not_neg (show 0 ≤ 1 + (a3.length : Int) + (a4.length : Int) + (a.length : Int) by omega), not_neg (show 0 ≤ 1 + (r3.length : Int) + (r4.length : Int) by omega)]
end Go.H
