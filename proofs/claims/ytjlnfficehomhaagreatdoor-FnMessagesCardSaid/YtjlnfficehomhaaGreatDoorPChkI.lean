/- The check numbers of strips: the program's text. -/
import Derived.Test.YtjlnfficehomhaaGreatDoorPNText
import Derived.Test.YtjlnfficehomhaaGreatDoorPStrip
import Derived.Test.YtjlnfficehomhaaGreatDoorPFieldI
set_option linter.unusedVariables false
namespace Go.H
open Go Go.Proofs

section
variable (w h : Nat) (E : List (Option Nat)) (hw : 3 ≤ w) (hw2 : w ≤ 16) (hh2 : h ≤ 16) (hE : E.length = w * h) (hb : ∀ x ∈ E, ∀ b, x = some b → b < 4294967296)

/-- a row of the sheet, and its text -/
def rowE (w : Nat) (E : List (Option Nat)) (y : Nat) : List (Option Nat) := (E.drop (w * y)).take w
noncomputable def rowT (w : Nat) (E : List (Option Nat)) (y : Nat) : List UInt8 := ((impl_NumbersText (rowE w E y)).getD (⟨#[]⟩, false)).1.data.toList

include hw hw2 hE hb in
theorem rowT_eq (y : Nat) (hy : y < h) : (rowT w E y).length ≤ 144 ∧ impl_NumbersText (rowE w E y) = some (mkB (rowT w E y), true) := by
  have hwy : w * y + w ≤ w * h := by rw [← Nat.mul_succ]; exact Nat.mul_le_mul_left _ hy
  have hl : (rowE w E y).length = w := by
    unfold rowE
    rw [List.length_take, List.length_drop, hE]
    omega
  obtain ⟨s, h1, h3⟩ := ntext_eq (rowE w E y) (by omega) (by omega) (fun x hx => hb x (List.mem_of_mem_drop (List.mem_of_mem_take hx)))
  have e : rowT w E y = s := by
    unfold rowT
    rw [h3, Option.getD_some]
    simp [mkB]
  rw [e]
  exact ⟨by omega, h3⟩

include hw2 hh2 hE in
theorem row_sub (y : Nat) (hy : y < h) : sub E (IntKind.wrap .i64 ((w : Int) * (y : Int))) (IntKind.wrap .i64 ((w : Int) * (IntKind.wrap .i64 ((y : Int) + 1)))) = some (rowE w E y) := by
  have hwy : w * y + w ≤ w * h := by rw [← Nat.mul_succ]; exact Nat.mul_le_mul_left _ hy
  have ha := area_le hw2 hh2
  rw [one_more (by omega)]
  have e1 : (w : Int) * (y : Int) = ((w * y : Nat) : Int) := by simp
  have e2 : (w : Int) * ((y + 1 : Nat) : Int) = ((w * y + w : Nat) : Int) := by rw [← Nat.mul_succ]; simp
  rw [e1, e2, wrap_small (by omega) (by omega), wrap_small (by omega) (by omega)]
  unfold sub rowE
  rw [if_pos ⟨by omega, by omega, by omega⟩, Int.toNat_natCast, Int.toNat_natCast, Nat.add_sub_cancel_left]

/-- the text of the first rows of a strip -/
noncomputable def catT (w : Nat) (E : List (Option Nat)) (fr : Nat) (k : Nat) : List UInt8 := (List.range k).flatMap fun i => rowT w E (fr + i)
theorem catT_succ (fr k : Nat) : catT w E fr (k + 1) = catT w E fr k ++ rowT w E (fr + k) := by
  unfold catT
  rw [List.range_succ, List.flatMap_append]
  simp

include hw hw2 hE hb in
theorem catT_len (fr : Nat) : ∀ k, fr + k ≤ h → (catT w E fr k).length ≤ 144 * k
  | 0, _ => by simp [catT]
  | k + 1, hk => by
    have h1 := catT_len fr k (by omega)
    have h2 := (rowT_eq w h E hw hw2 hE hb (fr + k) (by omega)).1
    rw [catT_succ, List.length_append]
    omega

/-- a strip's check number -/
noncomputable def checkT (w : Nat) (E : List (Option Nat)) (p : Int × Int) : Int := chk 0 (catT w E p.1.toNat p.2.toNat)

include hw hw2 hh2 hE hb in
theorem strip_impl (fr ct : Nat) (hf : fr + ct ≤ h) :
    loopF (fun (s : (ByteArray × Int)) => impl_StripChecks.s1 w E ((fr : Int), (ct : Int)) s.1 s.2) ((⟨#[]⟩ : ByteArray), (fr : Int)) = some (mkB (catT w E fr ct), ((fr + ct : Nat) : Int), false) := by
  have e1 : IntKind.wrap .i64 ((fr : Int) + (ct : Int)) = ((fr + ct : Nat) : Int) := by rw [wrap_small (by omega) (by omega)]; simp
  have A := loopF_upto (step := fun (s : (ByteArray × Int)) => impl_StripChecks.s1 w E ((fr : Int), (ct : Int)) s.1 s.2) (fun k => (mkB (catT w E fr k), ((fr + k : Nat) : Int))) ct (fun k hk => by
    show impl_StripChecks.s1 w E ((fr : Int), (ct : Int)) (mkB (catT w E fr k)) ((fr + k : Nat) : Int) = _
    have ht := rowT_eq w h E hw hw2 hE hb (fr + k) (by omega)
    have hl := catT_len w h E hw hw2 hE hb fr k (by omega)
    have hs := row_sub w h E hw2 hh2 hE (fr + k) (by omega)
    unfold impl_StripChecks.s1
    rw [Int.mul_comm, Int.mul_comm (w : Int) (IntKind.wrap .i64 (((fr + k : Nat) : Int) + 1))] at hs
    rw [e1, if_pos (decide_eq_true (by omega)), hs, Option.bind_some, ht.2, Option.bind_some]
    simp only
    rw [if_pos (by rw [mkB_size, mkB_size]; omega), mkB_append, ← catT_succ, one_more (by omega)]
    rfl)
  have A' : loopF (fun (s : (ByteArray × Int)) => impl_StripChecks.s1 w E ((fr : Int), (ct : Int)) s.1 s.2) ((⟨#[]⟩ : ByteArray), (fr : Int)) = _ := A
  rw [A']
  apply loopF_stop
  show impl_StripChecks.s1 w E ((fr : Int), (ct : Int)) (mkB (catT w E fr ct)) ((fr + ct : Nat) : Int) = _
  unfold impl_StripChecks.s1
  rw [e1, if_neg (by simp)]
  simp

variable (L : List (Int × Int)) (hL : L.length ≤ 8) (hg : ∀ p ∈ L, stripGood h p = true)
include hw hw2 hh2 hE hb hL hg

theorem checks_impl : loopF (fun (s : ((List (Int)) × Int)) => impl_StripChecks.s0 w E L s.1 s.2) (([] : List (Int)), 0) = some ((L.length : Int), false, L.map (checkT w E)) := by
  have A := loopF_upto (step := fun (s : ((List (Int)) × Int)) => impl_StripChecks.s0 w E L s.1 s.2) (fun k => ((L.take k).map (checkT w E), (k : Int))) L.length (fun k hk => by
    show impl_StripChecks.s0 w E L ((L.take k).map (checkT w E)) (k : Int) = _
    have hp : L[k]? = some L[k] := List.getElem?_eq_getElem hk
    obtain ⟨fr, ct, e, g1, g2, g3⟩ := good_has (hg L[k] (List.getElem_mem hk))
    have hc : checkT w E L[k] = chk 0 (catT w E fr ct) := by rw [e]; rfl
    have hlen := catT_len w h E hw hw2 hE hb fr ct (by omega)
    rw [List.take_succ_eq_append_getElem hk, List.map_append, List.map_cons, List.map_nil, hc]
    rw [e] at hp
    unfold impl_StripChecks.s0
    rw [if_pos (decide_eq_true (Int.ofNat_lt.2 hk)), idx_nat, hp, Option.bind_some, strip_impl w h E hw hw2 hh2 hE hb fr ct (by omega), Option.bind_some]
    simp only
    rw [check_impl _ (by omega), Option.bind_some]
    simp only
    rw [if_pos (by rw [List.length_map, List.length_take]; simp; omega), one_more (by omega)])
  have A' : loopF (fun (s : ((List (Int)) × Int)) => impl_StripChecks.s0 w E L s.1 s.2) (([] : List (Int)), 0) = _ := A
  rw [A', List.take_length]
  apply loopF_stop
  show impl_StripChecks.s0 w E L (L.map (checkT w E)) (L.length : Int) = _
  unfold impl_StripChecks.s0
  rw [if_neg (by simp)]
  simp
end

end Go.H
