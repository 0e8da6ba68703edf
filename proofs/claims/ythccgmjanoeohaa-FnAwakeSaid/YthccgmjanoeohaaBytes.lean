/- Rows of bytes that are handed in: each lies in its range. -/
import Derived.Test.YthccgmjanoeohaaBase13
set_option linter.unusedVariables false
namespace Go.H
open Go Go.ChangeShapes Go.WideShapes Go.ChangeAt Go.RowKit

def kR (k : IntKind) : Kd Int where
  size := 1
  rel n us := us = [.int k n] ∧ k.min ≤ n ∧ n ≤ k.max
  len := by rintro _ _ ⟨rfl, _⟩; rfl
  one := by rintro _ _ ⟨rfl, _⟩ u hu; simp at hu; subst hu; rfl
  pos := by decide

theorem RelL.range {k : IntKind} : ∀ {l : List Int} {xs : List Value}, RelL (kR k) l xs → RelL (kI k) l xs ∧ ∀ x ∈ l, k.min ≤ x ∧ x ≤ k.max
  | [], xs, h => ⟨h, by simp⟩
  | n :: l, xs, ⟨us, r, e, ⟨e2, hn⟩, h⟩ => by
    obtain ⟨h1, h2⟩ := RelL.range h
    refine ⟨⟨us, r, e, e2, h1⟩, fun x hx => ?_⟩
    rcases List.mem_cons.1 hx with rfl | hx
    · exact hn
    · exact h2 x hx

theorem SL.range {k : IntKind} {e : Nat} {h : Heap} {v : Value} {l : List Int} (H : SL (kR k) e h v l) : SL (kI k) e h v l ∧ ∀ x ∈ l, k.min ≤ x ∧ x ≤ k.max := by
  obtain ⟨a, c, xs, hv, ⟨hc, hr⟩, hm⟩ := H
  obtain ⟨h1, h2⟩ := hr.range
  exact ⟨⟨a, c, xs, hv, ⟨hc, h1⟩, hm⟩, h2⟩

section
variable {H : Type} {enc : TypeId × Value → H} {P : Program} {w : World} {base : Nat} {spare : Nat → Bool} {held : Bool}
theorem each_R {k : IntKind} {e : TypeId} (he : P.underlying e = some (.int k)) (n : Nat) (cs : List Value) (y : DataW H × List MemPlace) (h : DataW.trod enc P w base spare held n e cs = some y) : ∃ x, (kR k).rel x cs := by
  obtain ⟨b, rfl, _, hb⟩ := DataW.trod_int he h
  exact ⟨b, rfl, by simpa [Lit.wf] using hb⟩
end
end Go.H
