/- Proved: laws.FnExactMessagesOf returns true for every input that its parameters can hold, and each argument reads afterwards as it read before. No condition. -/
import Derived.Test.YtmgoblppedmdhaaHead
import Derived.Test.YtmgoblppedmdhaaLibC
import Derived.Test.YtmgoblppedmdhaaPMessagesOf
namespace Go.Proofs.Ytmgoblppedmdhaa
open Go Go.H Go.ChangeShapes Go.WideShapes Go.ChangeAt Go.RowKit
set_option linter.unusedVariables false
theorem own : ownKnob Try.prog.godebug = none := by kernel_rfl
theorem laidOut : laidOutB Try.prog = true := by kernel_rfl
theorem Try.cells2 : Try.prog.cellsOf 2 = 1 := by kernel_rfl
theorem Try.cells4 : Try.prog.cellsOf 4 = 1 := by kernel_rfl
theorem Try.cells25 : Try.prog.cellsOf 25 = 1 := by kernel_rfl
theorem Try.cells29 : Try.prog.cellsOf 29 = 1 := by kernel_rfl
theorem Try.cells78 : Try.prog.cellsOf 78 = 5 := by kernel_rfl

set_option maxHeartbeats 4000000 in
set_option maxRecDepth 100000 in
theorem lifted (os : Os) (started : os.Started) (H : Type) (enc : TypeId × Value → H) :
    ReturnsInHanded {} Try.checked os 10 .any (Rows.fnExactMessagesOfSpec.pre6 enc Try.prog Try.f10 Rows.fnExactMessagesOfRow.domain false) (Rows.fnExactMessagesOfSpec.post enc Try.prog Try.f10 false true false false) := by
  refine returnsInHanded_of_change (C := Try.checked) own started (by kernel_rfl) Try.func10
    (ChangeSpec.witness6 (enc := enc) (C := Try.checked) false ⟨#[], #[.agg #[.int .i64 0, .int .i64 0, .bool false, .slice none 0 0, .slice none 0 0], .int .i64 0], []⟩ 8 (by kernel_rfl) (by kernel_rfl) (by kernel_rfl) (by kernel_rfl)) ?_
  intro W base args ds gs before hval0 hW hcnd _
  have hval : ∀ (j : Nat) t v, Try.f10.params[j]? = some t → args[j]? = some v → Value.okWide Try.prog W .any base t v := hval0
  have hW' := hW
  obtain ⟨p, q, hA0, hV, rfl, hfz, hnd⟩ := hW
  have hA : DataW.TrodAll enc Try.prog W 0 (fun _ => true) true Try.f10.params.toList args.toList ds p := hA0
  rw [Try.params10] at hA hval
  obtain ⟨v0, vs0, d0, ds0, p0, q0, hargs, rfl, rfl, h0, r0⟩ := trodAll_cons hA
  obtain ⟨v1, vs1, d1, ds1, p1, q1, rfl, rfl, rfl, h1, r1⟩ := trodAll_cons r0
  obtain ⟨rfl, rfl, rfl⟩ := trodAll_nil r1
  obtain rfl : args = #[v0, v1] := by cases args; simp_all
  obtain ⟨rfl, rfl⟩ := trodVars_none hV
  have k0 := h0
  have lt0 : ∀ x ∈ p0, x.block < W.heap.size := by obtain ⟨m, hm⟩ := k0; exact DataW.trod_lt m _ _ _ hm
  have k1 := h1
  have lt1 : ∀ x ∈ p1, x.block < W.heap.size := by obtain ⟨m, hm⟩ := k1; exact DataW.trod_lt m _ _ _ hm
  obtain ⟨cs0, rfl, n0, s0, q0⟩ := argS Try.underlying78 (hval 0 78 v0 rfl rfl) h0
  rw [Try.cells78] at n0
  obtain ⟨x0_0, x0_1, x0_2, x0_3, x0_4, rfl⟩ := list5 n0
  obtain ⟨y0_0, z0_0⟩ := argField (xs := [x0_0]) q0 0 rfl rfl Try.cells2 rfl
  obtain ⟨a0_0, e0_0, _, wf0_0⟩ := DataW.trod_int Try.underlying2 z0_0
  simp only [List.cons.injEq, and_true] at e0_0
  subst e0_0
  have wf0_0 : IntKind.min .i64 ≤ a0_0 ∧ a0_0 ≤ IntKind.max .i64 := by simpa [Lit.wf] using wf0_0
  obtain ⟨y0_1, z0_1⟩ := argField (xs := [x0_1]) q0 1 rfl rfl Try.cells2 rfl
  obtain ⟨a0_1, e0_1, _, wf0_1⟩ := DataW.trod_int Try.underlying2 z0_1
  simp only [List.cons.injEq, and_true] at e0_1
  subst e0_1
  have wf0_1 : IntKind.min .i64 ≤ a0_1 ∧ a0_1 ≤ IntKind.max .i64 := by simpa [Lit.wf] using wf0_1
  obtain ⟨y0_2, z0_2⟩ := argField (xs := [x0_2]) q0 2 rfl rfl Try.cells4 rfl
  obtain ⟨a0_2, e0_2, _⟩ := DataW.trod_bool Try.underlying4 z0_2
  simp only [List.cons.injEq, and_true] at e0_2
  subst e0_2
  obtain ⟨y0_3, z0_3⟩ := argField (xs := [x0_3]) q0 3 rfl rfl Try.cells25 rfl
  obtain ⟨a0_3, g0_3, ln0_3⟩ := sl_of (K := (kF .f32)) Try.underlying25 Try.cells29 rfl (each_F Try.underlying29) z0_3
  obtain ⟨y0_4, z0_4⟩ := argField (xs := [x0_4]) q0 4 rfl rfl Try.cells25 rfl
  obtain ⟨a0_4, g0_4, ln0_4⟩ := sl_of (K := (kF .f32)) Try.underlying25 Try.cells29 rfl (each_F Try.underlying29) z0_4
  obtain ⟨a1, rfl, l1, m1⟩ := argI Try.underlying2 (hval 1 2 v1 rfl rfl) h1
  clear hA0 hval0
  have hp : laws_FnExactMessagesOf a0_0 a0_1 a0_2 a0_3 a0_4 a1 = some true := laws_FnExactMessagesOf_true a0_0 a0_1 a0_2 a0_3 a0_4 a1 ln0_3 ln0_4
  refine (laws_FnExactMessagesOf_ok W.heap _ _ _ _ _ g0_3 _ _ g0_4 _ _ hp W rfl).mono fun e W' ⟨v, he, hs, hv, hx⟩ => ?_
  subst hv
  subst he
  have bel : Below W.heap.size W W' := below_of hs rfl (Mod.ext hx.1)
  exact ⟨_, rfl, _, _, _, [], _, [], hW', trodAll_mk1 (shut_bool Try.underlying4 _), (trodAll_cons_mk (Below.trod laidOut (by kernel_rfl) (of_decide_eq_true (by kernel_rfl)) k0 bel lt0) (trodAll_cons_mk (Below.trod laidOut (by kernel_rfl) (of_decide_eq_true (by kernel_rfl)) k1 bel lt1) trodAll_mk0)), rfl, bel.frame _, fun h => by cases h⟩

theorem closed : joinedFacts Try.prog 10 Try.f10 Rows.fnExactMessagesOfSpec Rows.fnExactMessagesOfRow = true := by
  unfold joinedFacts
  rw [Try.enters, Try.lifts, Try.makes]
  kernel_rfl
theorem fnExactMessagesOf_holds : Rows.FnExactMessagesOfSaid :=
  OpenClaim.holds_of_wide 10 Try.f10 rfl rfl rfl rfl rfl rfl rfl ⟨rfl, rfl, rfl, rfl, rfl⟩ rfl rfl rfl rfl rfl (by kernel_rfl) Try.func10 closed
    (of_decide_eq_true (by kernel_rfl)) (by unfold Func.isWrapper; first | (rw [if_pos (by decide +kernel)]; kernel_rfl) | (rw [if_neg (by decide +kernel)]; exact ⟨rfl, rfl⟩))
    (fun os started H enc _ => lifted os started H enc)
#print axioms fnExactMessagesOf_holds
end Go.Proofs.Ytmgoblppedmdhaa

