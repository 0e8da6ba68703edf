/- strings.Repeat and strings.Join as calls that are told by heaps. Written by hand over the kit's contracts. -/
import Derived.Test.YtjlnfficehomhaaGreatDoorLibB
import Derived.Test.YtjlnfficehomhaaGreatDoorGShelf
set_option linter.unusedVariables false
namespace Go.H
open Go Go.Proofs Go.RowKit

theorem same_below {B : Nat} {w w' : World} (b : Below B w w') : Same w w' := ⟨b.tape, b.os, b.output⟩
theorem mod_below {w w' : World} (b : Below w.heap.size w w') : Mod [] w.heap w'.heap := ⟨b.size, fun k hk _ => b.block k hk⟩

noncomputable def strings_Repeat (a0 : ByteArray) (a1 : Int) : Option ByteArray := if 0 ≤ a1 ∧ a1 ≤ 1000000000 ∧ a0.size * a1.toNat ≤ 1000000000 then some ⟨(Lib.repeatL a0.data.toList a1.toNat).toArray⟩ else none

theorem strings_Repeat_ok (h0 : Heap) (a0 : ByteArray) (a1 : Int) (r : ByteArray) (hp : strings_Repeat a0 a1 = some r) : CallsH Tryz.prog 51 ([(.string a0), (.int .i64 a1)].toArray ++ [].toArray) h0 (fun v h' => v = (.string r) ∧ Mod [] h0 h' ∧ Sep [] h0.size h' []) := by
 unfold strings_Repeat at hp
 split at hp
 case isFalse => cases hp
 rename_i hc
 cases hp
 obtain ⟨c1, c2, c3⟩ := hc
 obtain ⟨n, rfl⟩ := Int.eq_ofNat_of_zero_le c1
 rw [Int.toNat_natCast] at c3 ⊢
 intro w hw
 subst hw
 refine (Tryz.strings_Repeat a0 n w (by omega) (by omega)).mono ?_
 rintro e w' ⟨rfl, b⟩
 exact ⟨_, rfl, same_below b, rfl, mod_below b, Sep.nil _ _ _⟩

noncomputable def strings_Join (a0 : List ByteArray) (a1 : ByteArray) : Option ByteArray := if a0.length ≤ 1000000000 ∧ (Lib.join (a0.map (·.data.toList)) a1.data.toList).length ≤ 1000000000 then some ⟨(Lib.join (a0.map (·.data.toList)) a1.data.toList).toArray⟩ else none

theorem strings_Join_ok (h0 : Heap) (u0 : Value) (a0 : List ByteArray) (g0 : SL kS h0.size h0 u0 a0) (a1 : ByteArray) (r : ByteArray) (hp : strings_Join a0 a1 = some r) : CallsH Tryz.prog 52 ([u0, (.string a1)].toArray ++ [].toArray) h0 (fun v h' => v = (.string r) ∧ Mod [] h0 h' ∧ Sep [] h0.size h' []) := by
 unfold strings_Join at hp
 split at hp
 case isFalse => cases hp
 rename_i hc
 cases hp
 obtain ⟨c1, c2⟩ := hc
 intro w hw
 subst hw
 obtain ⟨a, c, xs, rfl, ⟨hlc, hr⟩, hcell⟩ := g0
 rcases hcell with rfl | ⟨p, rfl, hsp, hb, hcell⟩
 ·refine (Tryz.strings_Join_none a c a1 w).mono ?_
  rintro e w' ⟨rfl, rfl⟩
  exact ⟨_, rfl, Same.refl _, rfl, Mod.refl _ _, Sep.nil _ _ _⟩
 ·obtain ⟨bk, o, sp⟩ := p
  simp at hsp
  subst hsp
  refine (Tryz.strings_Join bk o c a0 a1 w (fun j x hj => ?_) hb (by omega) hlc (by omega)).mono ?_
  ·obtain ⟨us, hrel, hus⟩ := hr.get hj
   have hrel : us = [.string x] := hrel
   subst hrel
   have := hcell (j * kS.size + 0) _ (hus 0 _ rfl)
   rw [add_lit, ← cell_hw rfl] at this
   have e : o + (j * kS.size + 0) = o + j := by show o + (j * 1 + 0) = o + j; omega
   rw [e] at this
   exact this
  ·rintro e w' ⟨rfl, b⟩
   exact ⟨_, rfl, same_below b, rfl, mod_below b, Sep.nil _ _ _⟩
end Go.H
