/- The check numbers of strips: the plain law. -/
import Derived.Test.YtjlnfficehomhaaDoorPNText
import Derived.Test.YtjlnfficehomhaaDoorPStrip
import Derived.Test.YtjlnfficehomhaaDoorPField
import Derived.Test.YtjlnfficehomhaaDoorPGrid
set_option linter.unusedVariables false
namespace Go.H
open Go Go.Proofs

section
variable (w h : Nat) (E : List (Option Nat)) (hw : 3 ≤ w) (hw2 : w ≤ 16) (hh2 : h ≤ 16) (hE : E.length = w * h) (hb : ∀ x ∈ E, ∀ b, x = some b → b < 4294967296)

/-- a row of the sheet, and its text -/
def rowE (w : Nat) (E : List (Option Nat)) (y : Nat) : List (Option Nat) := (E.drop (w * y)).take w
noncomputable def rowT (w : Nat) (E : List (Option Nat)) (y : Nat) : List UInt8 := ((spec_l01NText (rowE w E y)).getD ⟨#[]⟩).data.toList

include hw hw2 hE hb in
theorem rowT_eq (y : Nat) (hy : y < h) : (rowT w E y).length ≤ 144 ∧ spec_l01NText (rowE w E y) = some (mkB (rowT w E y)) ∧ impl_NumbersText (rowE w E y) = some (mkB (rowT w E y), true) := by
  have hwy : w * y + w ≤ w * h := by rw [← Nat.mul_succ]; exact Nat.mul_le_mul_left _ hy
  have hl : (rowE w E y).length = w := by
    unfold rowE
    rw [List.length_take, List.length_drop, hE]
    omega
  obtain ⟨s, h1, h2, h3⟩ := ntext_eq (rowE w E y) (by omega) (by omega) (fun x hx => hb x (List.mem_of_mem_drop (List.mem_of_mem_take hx)))
  have e : rowT w E y = s := by
    unfold rowT
    rw [h2, Option.getD_some]
    simp [mkB]
  rw [e]
  exact ⟨by omega, h2, h3⟩

include hw2 hh2 hE in
theorem row_sub (y : Nat) (hy : y < h) : sub E (IntKind.wrap .i64 ((w : Int) * (y : Int))) (IntKind.wrap .i64 ((w : Int) * (IntKind.wrap .i64 ((y : Int) + 1)))) = some (rowE w E y) := by
  have hwy : w * y + w ≤ w * h := by rw [← Nat.mul_succ]; exact Nat.mul_le_mul_left _ hy
  have ha := area_le hw2 hh2
  rw [one_more (by omega)]
  have e1 : (w : Int) * (y : Int) = ((w * y : Nat) : Int) := by simp
  have e2 : (w : Int) * ((y + 1 : Nat) : Int) = ((w * y + w : Nat) : Int) := by rw [← Nat.mul_succ]; simp
  rw [e1, e2, wrap_small (by omega) (by omega), wrap_small (by omega) (by omega)]
  unfold sub rowE
  rw [if_pos ⟨by omega, by omega, by omega⟩, Int.toNat_natCast, Int.toNat_natCast, Nat.add_sub_cancel_left]

/-- the text of the first rows of a strip -/
noncomputable def catT (w : Nat) (E : List (Option Nat)) (fr : Nat) (k : Nat) : List UInt8 := (List.range k).flatMap fun i => rowT w E (fr + i)
theorem catT_succ (fr k : Nat) : catT w E fr (k + 1) = catT w E fr k ++ rowT w E (fr + k) := by
  unfold catT
  rw [List.range_succ, List.flatMap_append]
  simp

include hw hw2 hE hb in
theorem catT_len (fr : Nat) : ∀ k, fr + k ≤ h → (catT w E fr k).length ≤ 144 * k
  | 0, _ => by simp [catT]
  | k + 1, hk => by
    have h1 := catT_len fr k (by omega)
    have h2 := (rowT_eq w h E hw hw2 hE hb (fr + k) (by omega)).1
    rw [catT_succ, List.length_append]
    omega

/-- a strip's check number -/
noncomputable def checkT (w : Nat) (E : List (Option Nat)) (p : Int × Int) : Int := chk 0 (catT w E p.1.toNat p.2.toNat)

include hw hw2 hh2 hE hb in
theorem strip_spec (L : List (Int × Int)) (a fr ct : Nat) (hp : L[a]? = some ((fr : Int), (ct : Int))) (hf : fr + ct ≤ h) :
    loopF (fun (s : (Int × Int)) => spec_StripChecks.s1 w E L (a : Int) s.1 s.2) (0, (fr : Int)) = some (chk 0 (catT w E fr ct), ((fr + ct : Nat) : Int), false) := by
  have e1 : IntKind.wrap .i64 ((fr : Int) + (ct : Int)) = ((fr + ct : Nat) : Int) := by rw [wrap_small (by omega) (by omega)]; simp
  have A := loopF_upto (step := fun (s : (Int × Int)) => spec_StripChecks.s1 w E L (a : Int) s.1 s.2) (fun k => (chk 0 (catT w E fr k), ((fr + k : Nat) : Int))) ct (fun k hk => by
    show spec_StripChecks.s1 w E L (a : Int) (chk 0 (catT w E fr k)) ((fr + k : Nat) : Int) = _
    have hr := chk_range (catT w E fr k) 0 (by omega) (by omega)
    have ht := rowT_eq w h E hw hw2 hE hb (fr + k) (by omega)
    unfold spec_StripChecks.s1
    rw [idx_nat, hp, Option.bind_some, Option.bind_some, e1, if_pos (decide_eq_true (by omega)), row_sub w h E hw2 hh2 hE (fr + k) (by omega), Option.bind_some, ht.2.1, Option.bind_some, check_spec _ _ hr.1 hr.2 (by omega), Option.bind_some, ← chk_append, ← catT_succ, one_more (by omega)]
    rfl)
  have A' : loopF (fun (s : (Int × Int)) => spec_StripChecks.s1 w E L (a : Int) s.1 s.2) (0, (fr : Int)) = _ := A
  rw [A']
  apply loopF_stop
  show spec_StripChecks.s1 w E L (a : Int) (chk 0 (catT w E fr ct)) ((fr + ct : Nat) : Int) = _
  unfold spec_StripChecks.s1
  rw [idx_nat, hp, Option.bind_some, Option.bind_some, e1, if_neg (by simp)]
  simp

include hw hw2 hh2 hE hb in
theorem strip_impl (fr ct : Nat) (hf : fr + ct ≤ h) :
    loopF (fun (s : (ByteArray × Int)) => impl_StripChecks.s1 w E ((fr : Int), (ct : Int)) s.1 s.2) ((⟨#[]⟩ : ByteArray), (fr : Int)) = some (mkB (catT w E fr ct), ((fr + ct : Nat) : Int), false) := by
  have e1 : IntKind.wrap .i64 ((fr : Int) + (ct : Int)) = ((fr + ct : Nat) : Int) := by rw [wrap_small (by omega) (by omega)]; simp
  have A := loopF_upto (step := fun (s : (ByteArray × Int)) => impl_StripChecks.s1 w E ((fr : Int), (ct : Int)) s.1 s.2) (fun k => (mkB (catT w E fr k), ((fr + k : Nat) : Int))) ct (fun k hk => by
    show impl_StripChecks.s1 w E ((fr : Int), (ct : Int)) (mkB (catT w E fr k)) ((fr + k : Nat) : Int) = _
    have ht := rowT_eq w h E hw hw2 hE hb (fr + k) (by omega)
    have hl := catT_len w h E hw hw2 hE hb fr k (by omega)
    have hs := row_sub w h E hw2 hh2 hE (fr + k) (by omega)
    unfold impl_StripChecks.s1
    rw [Int.mul_comm, Int.mul_comm (w : Int) (IntKind.wrap .i64 (((fr + k : Nat) : Int) + 1))] at hs
    rw [e1, if_pos (decide_eq_true (by omega)), hs, Option.bind_some, ht.2.2, Option.bind_some]
    simp only
    rw [if_pos (by rw [mkB_size, mkB_size]; omega), mkB_append, ← catT_succ, one_more (by omega)]
    rfl)
  have A' : loopF (fun (s : (ByteArray × Int)) => impl_StripChecks.s1 w E ((fr : Int), (ct : Int)) s.1 s.2) ((⟨#[]⟩ : ByteArray), (fr : Int)) = _ := A
  rw [A']
  apply loopF_stop
  show impl_StripChecks.s1 w E ((fr : Int), (ct : Int)) (mkB (catT w E fr ct)) ((fr + ct : Nat) : Int) = _
  unfold impl_StripChecks.s1
  rw [e1, if_neg (by simp)]
  simp

variable (L : List (Int × Int)) (hL : L.length ≤ 8) (hg : ∀ p ∈ L, stripGood h p = true)
include hw hw2 hh2 hE hb hL hg

theorem checks_spec : loopF (fun (s : ((List (Int)) × Int)) => spec_StripChecks.s0 w E L s.1 s.2) (([] : List (Int)), 0) = some ((L.length : Int), false, L.map (checkT w E)) := by
  have A := loopF_upto (step := fun (s : ((List (Int)) × Int)) => spec_StripChecks.s0 w E L s.1 s.2) (fun k => ((L.take k).map (checkT w E), (k : Int))) L.length (fun k hk => by
    show spec_StripChecks.s0 w E L ((L.take k).map (checkT w E)) (k : Int) = _
    have hp : L[k]? = some L[k] := List.getElem?_eq_getElem hk
    obtain ⟨fr, ct, e, g1, g2, g3⟩ := good_has (hg L[k] (List.getElem_mem hk))
    have hc : checkT w E L[k] = chk 0 (catT w E fr ct) := by rw [e]; rfl
    rw [List.take_succ_eq_append_getElem hk, List.map_append, List.map_cons, List.map_nil, hc]
    rw [e] at hp
    unfold spec_StripChecks.s0
    rw [if_pos (decide_eq_true (Int.ofNat_lt.2 hk)), idx_nat, hp, Option.bind_some, strip_spec w h E hw hw2 hh2 hE hb L k fr ct hp (by omega), Option.bind_some]
    simp only
    rw [if_pos (by rw [List.length_map, List.length_take]; simp; omega), one_more (by omega)])
  have A' : loopF (fun (s : ((List (Int)) × Int)) => spec_StripChecks.s0 w E L s.1 s.2) (([] : List (Int)), 0) = _ := A
  rw [A', List.take_length]
  apply loopF_stop
  show spec_StripChecks.s0 w E L (L.map (checkT w E)) (L.length : Int) = _
  unfold spec_StripChecks.s0
  rw [if_neg (by simp)]
  simp

theorem checks_impl : loopF (fun (s : ((List (Int)) × Int)) => impl_StripChecks.s0 w E L s.1 s.2) (([] : List (Int)), 0) = some ((L.length : Int), false, L.map (checkT w E)) := by
  have A := loopF_upto (step := fun (s : ((List (Int)) × Int)) => impl_StripChecks.s0 w E L s.1 s.2) (fun k => ((L.take k).map (checkT w E), (k : Int))) L.length (fun k hk => by
    show impl_StripChecks.s0 w E L ((L.take k).map (checkT w E)) (k : Int) = _
    have hp : L[k]? = some L[k] := List.getElem?_eq_getElem hk
    obtain ⟨fr, ct, e, g1, g2, g3⟩ := good_has (hg L[k] (List.getElem_mem hk))
    have hc : checkT w E L[k] = chk 0 (catT w E fr ct) := by rw [e]; rfl
    have hlen := catT_len w h E hw hw2 hE hb fr ct (by omega)
    rw [List.take_succ_eq_append_getElem hk, List.map_append, List.map_cons, List.map_nil, hc]
    rw [e] at hp
    unfold impl_StripChecks.s0
    rw [if_pos (decide_eq_true (Int.ofNat_lt.2 hk)), idx_nat, hp, Option.bind_some, strip_impl w h E hw hw2 hh2 hE hb fr ct (by omega), Option.bind_some]
    simp only
    rw [check_impl _ (by omega), Option.bind_some]
    simp only
    rw [if_pos (by rw [List.length_map, List.length_take]; simp; omega), one_more (by omega)])
  have A' : loopF (fun (s : ((List (Int)) × Int)) => impl_StripChecks.s0 w E L s.1 s.2) (([] : List (Int)), 0) = _ := A
  rw [A', List.take_length]
  apply loopF_stop
  show impl_StripChecks.s0 w E L (L.map (checkT w E)) (L.length : Int) = _
  unfold impl_StripChecks.s0
  rw [if_neg (by simp)]
  simp
end

theorem checks_eq (a0 a1 : Int) (a2 : Bool) (a3 a4 e x y : List (Option Nat)) (p : Int) (h3 : a3.length ≤ 1000000000) (h4 : a4.length ≤ 1000000000) (hb : ∀ z ∈ e, ∀ b, z = some b → b < 4294967296) : ∃ r : List Int × Bool, r.1.length ≤ 8 ∧ spec_StripChecks a0 a1 a2 a3 a4 e x y p = some r ∧ impl_StripChecks a0 a1 a2 a3 a4 e x y p = some r := by
  unfold spec_StripChecks impl_StripChecks impl_areWorkers spec_l00In impl_within
  obtain ⟨v, e1, e2⟩ := field_eq a0 a1 a2 a3 a4 e x y h3 h4
  rw [e1, e2]
  simp only [ite_andB, some_bind', ite_orB]
  generalize hc : (!v || !(decide (p ≥ 1) && decide (p ≤ 8))) = c
  cases c with
  | true => exact ⟨([], false), by simp, rfl, rfl⟩
  | false =>
    simp only [Bool.or_eq_false_iff, Bool.not_eq_false', Bool.and_eq_true, decide_eq_true_eq] at hc
    rw [hc.1] at e2
    obtain ⟨w, h, rfl, rfl, w1, w2, k1, k2, le, lx, ly, _⟩ := field_num e2
    obtain ⟨n, rfl⟩ := Int.eq_ofNat_of_zero_le (show 0 ≤ p by omega)
    have hs := strips_is (h : Int) n (by omega) (by omega)
    have hs2 : impl_stripsOf w h a2 a3 a4 n = some (stripsL (h : Int) n) := hs
    have hgood := strips_good h (by omega) n (by omega)
    rw [Bool.and_eq_true, List.all_eq_true, decide_eq_true_eq] at hgood
    simp only [Bool.false_eq_true, if_false, hs, hs2, some_bind', checks_spec w h e w1 w2 k2 le hb _ hgood.2 hgood.1, checks_impl w h e w1 w2 k2 le hb _ hgood.2 hgood.1]
    exact ⟨_, by rw [List.length_map]; exact hgood.2, rfl, rfl⟩

theorem laws_FnExactStripChecks_true (a0 a1 : Int) (a2 : Bool) (a3 a4 b0 b1 b2 : List (Option Nat)) (p : Int) (h3 : a3.length ≤ 9223372036854775807) (h4 : a4.length ≤ 9223372036854775807) (k0 : b0.length ≤ 9223372036854775807) (k1 : b1.length ≤ 9223372036854775807) (k2 : b2.length ≤ 9223372036854775807) (hb : ∀ z ∈ b0, ∀ b, z = some b → b < 4294967296) : laws_FnExactStripChecks a0 a1 a2 a3 a4 b0 b1 b2 p = some true := by
  unfold laws_FnExactStripChecks
  rcases szSheet_cases a0 a1 a2 a3 a4 1048576 (by omega) (by omega) h3 h4 with h | ⟨h, hl⟩
  · rw [h]; rfl
  · rw [h, some_bind', if_neg (by simp; omega)]
    rcases szField_cases b0 b1 b2 (1048576 - (a3.length : Int) - (a4.length : Int)) (by omega) (by omega) k0 k1 k2 with h | ⟨h, hl2⟩
    · rw [h]; rfl
    · rw [h, some_bind', if_neg (by simp; omega)]
      obtain ⟨⟨l, r⟩, hlen, e1, e2⟩ := checks_eq a0 a1 a2 a3 a4 b0 b1 b2 p (by omega) (by omega) hb
      simp only at hlen
      simp only [toSheet_eq a0 a1 a2 a3 a4 (by omega) (by omega), toField_eq b0 b1 b2 (by omega) (by omega) (by omega), e1, e2, some_bind', eqInt64S_self l (by omega), eqSheet_self a0 a1 a2 a3 a4 (by omega) (by omega), eqField_self b0 b1 b2 (by omega) (by omega) (by omega), bne_self_eq_false, Bool.not_true, Bool.false_eq_true, if_false, markSheet_eq a0 a1 a2 a3 a4 1 (by omega) (by omega), markField_eq b0 b1 b2 (1 + (a3.length : Int) + (a4.length : Int)) (by omega) (by omega), markI_eq l 1 (by omega) (by omega), heldI_eq 1 l.length (by omega) (by omega), not_neg (show 0 ≤ 1 + (a3.length : Int) + (a4.length : Int) + (b0.length : Int) + (b1.length : Int) + (b2.length : Int) by omega), not_neg (show 0 ≤ 1 + (l.length : Int) by omega)]
end Go.H
