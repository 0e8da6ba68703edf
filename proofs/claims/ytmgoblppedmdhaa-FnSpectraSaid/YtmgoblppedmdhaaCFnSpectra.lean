/- Proved: laws.FnSpectra returns true for every input that its parameters can hold, and each argument reads afterwards as it read before. No condition. -/
import Derived.Test.YtmgoblppedmdhaaHead
import Derived.Test.YtmgoblppedmdhaaLibC
import Derived.Test.YtmgoblppedmdhaaPSpectra
namespace Go.Proofs.Ytmgoblppedmdhaa
open Go Go.H Go.ChangeShapes Go.WideShapes Go.ChangeAt Go.RowKit
set_option linter.unusedVariables false
theorem own : ownKnob Try.prog.godebug = none := by kernel_rfl
theorem laidOut : laidOutB Try.prog = true := by kernel_rfl
theorem Try.cells5 : Try.prog.cellsOf 5 = 1 := by kernel_rfl

set_option maxHeartbeats 4000000 in
set_option maxRecDepth 100000 in
theorem lifted (os : Os) (started : os.Started) (H : Type) (enc : TypeId × Value → H) :
    ReturnsInHanded {} Try.checked os 9 .any (Rows.fnSpectraSpec.pre6 enc Try.prog Try.f9 Rows.fnSpectraRow.domain false) (Rows.fnSpectraSpec.post enc Try.prog Try.f9 false true false false) := by
  refine returnsInHanded_of_change (C := Try.checked) own started (by kernel_rfl) Try.func9
    (ChangeSpec.witness6 (enc := enc) (C := Try.checked) false ⟨#[], #[.slice none 0 0, .slice none 0 0], []⟩ 8 (by kernel_rfl) (by kernel_rfl) (by kernel_rfl) (by kernel_rfl)) ?_
  intro W base args ds gs before hval0 hW hcnd _
  have hval : ∀ (j : Nat) t v, Try.f9.params[j]? = some t → args[j]? = some v → Value.okWide Try.prog W .any base t v := hval0
  have hW' := hW
  obtain ⟨p, q, hA0, hV, rfl, hfz, hnd⟩ := hW
  have hA : DataW.TrodAll enc Try.prog W 0 (fun _ => true) true Try.f9.params.toList args.toList ds p := hA0
  rw [Try.params9] at hA hval
  obtain ⟨v0, vs0, d0, ds0, p0, q0, hargs, rfl, rfl, h0, r0⟩ := trodAll_cons hA
  obtain ⟨v1, vs1, d1, ds1, p1, q1, rfl, rfl, rfl, h1, r1⟩ := trodAll_cons r0
  obtain ⟨rfl, rfl, rfl⟩ := trodAll_nil r1
  obtain rfl : args = #[v0, v1] := by cases args; simp_all
  obtain ⟨rfl, rfl⟩ := trodVars_none hV
  have k0 := h0
  have lt0 : ∀ x ∈ p0, x.block < W.heap.size := by obtain ⟨m, hm⟩ := k0; exact DataW.trod_lt m _ _ _ hm
  have k1 := h1
  have lt1 : ∀ x ∈ p1, x.block < W.heap.size := by obtain ⟨m, hm⟩ := k1; exact DataW.trod_lt m _ _ _ hm
  obtain ⟨a0, gr0, ln0⟩ := argL (K := kR .u8) Try.underlying22 Try.cells5 rfl (each_R Try.underlying5) (hval 0 22 v0 rfl rfl) h0
  obtain ⟨g0, rg0⟩ := SL.range gr0
  obtain ⟨a1, gr1, ln1⟩ := argL (K := kR .u8) Try.underlying22 Try.cells5 rfl (each_R Try.underlying5) (hval 1 22 v1 rfl rfl) h1
  obtain ⟨g1, rg1⟩ := SL.range gr1
  clear hA0 hval0
  have hp : laws_FnSpectra a0 a1 = some true := laws_FnSpectra_true a0 a1 rg0 rg1
  refine (laws_FnSpectra_ok W.heap _ _ g0 _ _ g1 _ hp W rfl).mono fun e W' ⟨v, he, hs, hv, hx⟩ => ?_
  subst hv
  subst he
  have bel : Below W.heap.size W W' := below_of hs rfl (Mod.ext hx.1)
  exact ⟨_, rfl, _, _, _, [], _, [], hW', trodAll_mk1 (shut_bool Try.underlying4 _), (trodAll_cons_mk (Below.trod laidOut (by kernel_rfl) (of_decide_eq_true (by kernel_rfl)) k0 bel lt0) (trodAll_cons_mk (Below.trod laidOut (by kernel_rfl) (of_decide_eq_true (by kernel_rfl)) k1 bel lt1) trodAll_mk0)), rfl, bel.frame _, fun h => by cases h⟩

theorem closed : joinedFacts Try.prog 9 Try.f9 Rows.fnSpectraSpec Rows.fnSpectraRow = true := by
  unfold joinedFacts
  rw [Try.enters, Try.lifts, Try.makes]
  kernel_rfl
theorem fnSpectra_holds : Rows.FnSpectraSaid :=
  OpenClaim.holds_of_wide 9 Try.f9 rfl rfl rfl rfl rfl rfl rfl ⟨rfl, rfl, rfl, rfl, rfl⟩ rfl rfl rfl rfl rfl (by kernel_rfl) Try.func9 closed
    (of_decide_eq_true (by kernel_rfl)) (by unfold Func.isWrapper; first | (rw [if_pos (by decide +kernel)]; kernel_rfl) | (rw [if_neg (by decide +kernel)]; exact ⟨rfl, rfl⟩))
    (fun os started H enc _ => lifted os started H enc)
#print axioms fnSpectra_holds
end Go.Proofs.Ytmgoblppedmdhaa

