/- Proved: laws.FnExactStripChecks returns true for every input that its parameters can hold, and each argument reads afterwards as it read before: the tied card (three tables of the library read as the program's text lays them). No other condition. -/
import Derived.Test.YtjlnfficehomhaaDoorHead
import Derived.Test.YtjlnfficehomhaaDoorLibC
import Derived.Test.YtjlnfficehomhaaDoorPStripChecks
import Derived.Test.YtjlnfficehomhaaDoorCards
import Derived.Test.YtjlnfficehomhaaDoorTie
import Derived.SevenTiedAt
import Derived.LaidMore
import Derived.Stop.Joined
namespace Go.Proofs.YtjlnfficehomhaaDoor
open Go Go.H Go.ChangeShapes Go.WideShapes Go.ChangeAt Go.RowKit
set_option linter.unusedVariables false
theorem own : ownKnob Tryd.prog.godebug = none := by kernel_rfl
theorem laidOut : laidOutB Tryd.prog = true := by kernel_rfl
theorem Tryd.cells2 : Tryd.prog.cellsOf 2 = 1 := by kernel_rfl
theorem Tryd.cells4 : Tryd.prog.cellsOf 4 = 1 := by kernel_rfl
theorem Tryd.cells22 : Tryd.prog.cellsOf 22 = 1 := by kernel_rfl
theorem Tryd.cells24 : Tryd.prog.cellsOf 24 = 5 := by kernel_rfl
theorem Tryd.cells26 : Tryd.prog.cellsOf 26 = 3 := by kernel_rfl
theorem Tryd.cells65 : Tryd.prog.cellsOf 65 = 1 := by kernel_rfl

/-- the tables that the row lists -/
def laid3 : List (String × DataW Unit) := Rows.fnExactStripChecksRow.laid
theorem gTab : (laid3[1]?).bind (fun x => Tryd.prog.globalNamed x.1) = some 4 := by kernel_rfl
theorem tTab : (Tryd.prog.globals[4]?).map (·.type) = some 118 := by kernel_rfl
theorem cells5 : Tryd.prog.cellsOf 5 = 1 := by kernel_rfl

/-- the door's own heap meets the condition -/
theorem door_met (os : Os) (args : Array Value) : laidMetH Tryd.prog laid3 ((World.doorLaid Tryd.prog 400 os).forCall (fun _ _ => 0) ⟨#[], args, []⟩).memory :=
  laidMetH_of_parts3 (fuel := 8) (laidMet_of_run' 8 (by kernel_rfl) (by kernel_rfl)) (by kernel_rfl) (by kernel_rfl)

set_option maxRecDepth 100000 in
/-- what the condition gives the walk: the one place that is read -/
theorem of_laid {W : World} (h : laidMetH Tryd.prog laid3 W) : TabH W.heap := by
  rw [MakeChecks.laidMetH_plain _ _ _ (by kernel_rfl)] at h
  obtain ⟨ps, ⟨g0, t0, cs0, f0, p0, q0, hg0, ht0, hv0, hd0, ⟨g1, t1, cs1, f1, p1, q1, hg1, ht1, hv1, hd1, _⟩, _⟩, _⟩ := h
  obtain rfl : 4 = g1 := Option.some.inj (gTab.symm.trans hg1)
  obtain rfl := Option.some.inj (tTab.symm.trans ht1)
  obtain ⟨xs, m1, rfl, hx1, hlen, hn3, hel⟩ := DataW.trod_array Tryd.underlying118 hd1
  have h0 := hel 15 (by decide)
  rw [cells5, Nat.mul_one] at h0
  simp only [Prod.mk.injEq] at hx1
  have hx2 := hx1.1
  unfold Rows.laid_math_bits_deBruijn64tab at hx2
  simp only [DataW.agg.injEq] at hx2
  have h15 : (xs.map (·.1))[15]? = some (.lit (.int .u8 4)) := by rw [← hx2]; rfl
  rw [List.getElem?_map] at h15
  obtain ⟨x15, hx15, he15⟩ := Option.map_eq_some_iff.1 h15
  rw [hx15] at h0
  obtain ⟨k, e1, e2, _⟩ := DataW.trod_int Tryd.underlying5 h0
  have hk : k = 4 := by
    have := he15
    rw [e2] at this
    simpa using this
  subst hk
  have hc := World.var?_cell hg1 hv1 15
  have hl : cs1.toList[15]? = some (.int .u8 4) := by
    have h2 : ((cs1.toList.drop 15).take 1)[0]? = some (.int .u8 4) := by rw [e1]; rfl
    rw [List.getElem?_take_of_lt (by decide), List.getElem?_drop] at h2
    exact h2
  show (hw W.heap).cell? ⟨4, 15, none⟩ = _
  rw [← cell_hw rfl, hc, ← Array.getElem?_toList]
  exact hl

/-- the bits of what a row of floats holds -/
theorem rel_small : ∀ (l : List (Option Nat)) (xs : List Value), RelL (kF .f32) l xs → ∀ z ∈ l, ∀ b, z = some b → b < 4294967296
  | [], _, _, z, hz, _, _ => by simp at hz
  | x :: l, _, ⟨us, r, e, ⟨u, _, b0, _, hb, hc⟩, h2⟩, z, hz, b, hzb => by
    rcases List.mem_cons.1 hz with rfl | hz
    · rw [hzb] at hc
      have := (cls_some.1 hc).1
      subst this
      exact hb
    · exact rel_small l r h2 z hz b hzb
theorem sl_small {e : Nat} {h : Heap} {v : Value} {l : List (Option Nat)} (H : SL (kF .f32) e h v l) : ∀ z ∈ l, ∀ b, z = some b → b < 4294967296 := by
  obtain ⟨a, c, xs, _, ⟨_, hr⟩, _⟩ := H
  exact rel_small l xs hr

set_option maxHeartbeats 4000000 in
set_option maxRecDepth 100000 in
theorem lifted (os : Os) (started : os.Started) (H : Type) (enc : TypeId × Value → H) :
    ReturnsInHanded {} Tryd.checked os 3 .any (fun w args => (Rows.fnExactStripChecksSpec.pre enc Tryd.prog Tryd.f3 [] false w args ∧ laidMetH Tryd.prog laid3 w) ∧ sizedMet enc Tryd.prog Tryd.f3 (OpenSpec.ofChange Rows.fnExactStripChecksSpec) false w args)
      (Rows.fnExactStripChecksSpec.post enc Tryd.prog Tryd.f3 false true false false) := by
  refine returnsInHanded_of_change_and (C := Tryd.checked) (X := fun w _ => laidMetH Tryd.prog laid3 w) (fun _ _ _ hh h => h.of_heap hh) own started (by kernel_rfl) Tryd.func3
    (ChangeSpec.witness_shaped (enc := enc) (C := Tryd.checked) (os := os) (X := fun w _ => laidMetH Tryd.prog laid3 w) false (World.doorLaid Tryd.prog 400 os) #[.agg #[.int .i64 0, .int .i64 0, .bool false, .slice none 0 0, .slice none 0 0], .agg #[.slice none 0 0, .slice none 0 0, .slice none 0 0], .int .i64 0] 8 rfl (World.shaped_of_RefB (by kernel_rfl) (by kernel_rfl)) (by kernel_rfl) (by kernel_rfl) (by kernel_rfl) (door_met os _)) ?_
  intro W base args ds gs before hval0 hW hcnd _ hLaid _
  have hval : ∀ (j : Nat) t v, Tryd.f3.params[j]? = some t → args[j]? = some v → Value.okWide Tryd.prog W .any base t v := hval0
  have hW' := hW
  obtain ⟨p, q, hA0, hV, rfl, hfz, hnd⟩ := hW
  have hA : DataW.TrodAll enc Tryd.prog W 0 (fun _ => true) true Tryd.f3.params.toList args.toList ds p := hA0
  rw [Tryd.params3] at hA hval
  obtain ⟨v0, vs0, d0, ds0, p0, q0, hargs, rfl, rfl, h0, r0⟩ := trodAll_cons hA
  obtain ⟨v1, vs1, d1, ds1, p1, q1, rfl, rfl, rfl, h1, r1⟩ := trodAll_cons r0
  obtain ⟨v2, vs2, d2, ds2, p2, q2, rfl, rfl, rfl, h2, r2⟩ := trodAll_cons r1
  obtain ⟨rfl, rfl, rfl⟩ := trodAll_nil r2
  obtain rfl : args = #[v0, v1, v2] := by cases args; simp_all
  obtain ⟨rfl, rfl⟩ := trodVars_none hV
  have k0 := h0
  have lt0 : ∀ x ∈ p0, x.block < W.heap.size := by obtain ⟨m, hm⟩ := k0; exact DataW.trod_lt m _ _ _ hm
  have k1 := h1
  have lt1 : ∀ x ∈ p1, x.block < W.heap.size := by obtain ⟨m, hm⟩ := k1; exact DataW.trod_lt m _ _ _ hm
  have k2 := h2
  have lt2 : ∀ x ∈ p2, x.block < W.heap.size := by obtain ⟨m, hm⟩ := k2; exact DataW.trod_lt m _ _ _ hm
  obtain ⟨cs0, rfl, n0, s0, q0⟩ := argS Tryd.underlying24 (hval 0 24 v0 rfl rfl) h0
  rw [Tryd.cells24] at n0
  obtain ⟨x0_0, x0_1, x0_2, x0_3, x0_4, rfl⟩ := list5 n0
  obtain ⟨y0_0, z0_0⟩ := argField (xs := [x0_0]) q0 0 rfl rfl Tryd.cells2 rfl
  obtain ⟨a0_0, e0_0, _, wf0_0⟩ := DataW.trod_int Tryd.underlying2 z0_0
  simp only [List.cons.injEq, and_true] at e0_0
  subst e0_0
  have wf0_0 : IntKind.min .i64 ≤ a0_0 ∧ a0_0 ≤ IntKind.max .i64 := by simpa [Lit.wf] using wf0_0
  obtain ⟨y0_1, z0_1⟩ := argField (xs := [x0_1]) q0 1 rfl rfl Tryd.cells2 rfl
  obtain ⟨a0_1, e0_1, _, wf0_1⟩ := DataW.trod_int Tryd.underlying2 z0_1
  simp only [List.cons.injEq, and_true] at e0_1
  subst e0_1
  have wf0_1 : IntKind.min .i64 ≤ a0_1 ∧ a0_1 ≤ IntKind.max .i64 := by simpa [Lit.wf] using wf0_1
  obtain ⟨y0_2, z0_2⟩ := argField (xs := [x0_2]) q0 2 rfl rfl Tryd.cells4 rfl
  obtain ⟨a0_2, e0_2, _⟩ := DataW.trod_bool Tryd.underlying4 z0_2
  simp only [List.cons.injEq, and_true] at e0_2
  subst e0_2
  obtain ⟨y0_3, z0_3⟩ := argField (xs := [x0_3]) q0 3 rfl rfl Tryd.cells22 rfl
  obtain ⟨a0_3, g0_3, ln0_3⟩ := sl_of (K := (kF .f32)) Tryd.underlying22 Tryd.cells65 rfl (each_F Tryd.underlying65) z0_3
  obtain ⟨y0_4, z0_4⟩ := argField (xs := [x0_4]) q0 4 rfl rfl Tryd.cells22 rfl
  obtain ⟨a0_4, g0_4, ln0_4⟩ := sl_of (K := (kF .f32)) Tryd.underlying22 Tryd.cells65 rfl (each_F Tryd.underlying65) z0_4
  obtain ⟨cs1, rfl, n1, s1, q1⟩ := argS Tryd.underlying26 (hval 1 26 v1 rfl rfl) h1
  rw [Tryd.cells26] at n1
  obtain ⟨x1_0, x1_1, x1_2, rfl⟩ := list3 n1
  obtain ⟨y1_0, z1_0⟩ := argField (xs := [x1_0]) q1 0 rfl rfl Tryd.cells22 rfl
  obtain ⟨a1_0, g1_0, ln1_0⟩ := sl_of (K := (kF .f32)) Tryd.underlying22 Tryd.cells65 rfl (each_F Tryd.underlying65) z1_0
  obtain ⟨y1_1, z1_1⟩ := argField (xs := [x1_1]) q1 1 rfl rfl Tryd.cells22 rfl
  obtain ⟨a1_1, g1_1, ln1_1⟩ := sl_of (K := (kF .f32)) Tryd.underlying22 Tryd.cells65 rfl (each_F Tryd.underlying65) z1_1
  obtain ⟨y1_2, z1_2⟩ := argField (xs := [x1_2]) q1 2 rfl rfl Tryd.cells22 rfl
  obtain ⟨a1_2, g1_2, ln1_2⟩ := sl_of (K := (kF .f32)) Tryd.underlying22 Tryd.cells65 rfl (each_F Tryd.underlying65) z1_2
  obtain ⟨a2, rfl, l2, m2⟩ := argI Tryd.underlying2 (hval 2 2 v2 rfl rfl) h2
  clear hA0 hval0
  have hp : laws_FnExactStripChecks a0_0 a0_1 a0_2 a0_3 a0_4 a1_0 a1_1 a1_2 a2 = some true := laws_FnExactStripChecks_true a0_0 a0_1 a0_2 a0_3 a0_4 a1_0 a1_1 a1_2 a2 ln0_3 ln0_4 ln1_0 ln1_1 ln1_2 (sl_small g1_0)
  refine (laws_FnExactStripChecks_ok W.heap (of_laid hLaid) _ _ _ _ _ g0_3 _ _ g0_4 _ _ g1_0 _ _ g1_1 _ _ g1_2 _ _ hp W rfl).mono fun e W' ⟨v, he, hs, hv, hx⟩ => ?_
  subst hv
  subst he
  have bel : Below W.heap.size W W' := below_of hs rfl (Mod.ext hx.1)
  exact ⟨_, rfl, _, _, _, [], _, [], hW', trodAll_mk1 (shut_bool Tryd.underlying4 _), (trodAll_cons_mk (Below.trod laidOut (by kernel_rfl) (of_decide_eq_true (by kernel_rfl)) k0 bel lt0) (trodAll_cons_mk (Below.trod laidOut (by kernel_rfl) (of_decide_eq_true (by kernel_rfl)) k1 bel lt1) (trodAll_cons_mk (Below.trod laidOut (by kernel_rfl) (of_decide_eq_true (by kernel_rfl)) k2 bel lt2) trodAll_mk0))), rfl, bel.frame _, fun h => by cases h⟩

theorem closed : joinedFacts Tryd.prog 3 Tryd.f3 Rows.fnExactStripChecksSpec Rows.fnExactStripChecksRow = true := by
  unfold joinedFacts
  rw [Tryd.enters, Tryd.lifts, Tryd.makes]
  kernel_rfl
theorem fnExactStripChecks_holds : Rows.FnExactStripChecksSaid :=
  OpenClaim.holds_of_wide 3 Tryd.f3 rfl rfl rfl rfl rfl rfl rfl ⟨rfl, rfl, rfl, rfl, rfl⟩ rfl rfl rfl rfl rfl (by kernel_rfl) Tryd.func3 closed
    (of_decide_eq_true (by kernel_rfl)) (by unfold Func.isWrapper; first | (rw [if_pos (by decide +kernel)]; kernel_rfl) | (rw [if_neg (by decide +kernel)]; exact ⟨rfl, rfl⟩))
    (fun os started H enc _ => lifted os started H enc)
theorem fnExactStripChecksCard_holds : Rows.FnExactStripChecksCardSaid :=
  Claim7.holds_tied_plain_at .later [] [.data, .data, .data] true (true, "35eba59fd08a919c4d0754c155acd4250d310420596c4017976535cdd0e121c4") false
    fnExactStripChecks_holds (fun _ h => by cases h) (by kernel_rfl) (fun _ h => by cases h) fnExactStripChecks_row_tie rfl ⟨rfl, rfl⟩ (by kernel_rfl) rfl
    (fun f fn hf hfn => by
      obtain rfl : f = 3 := Option.some.inj ((show Tryd.prog.funcNamed Rows.fnExactStripChecksRow.func = some 3 by kernel_rfl).symm.trans hf) |>.symm
      obtain rfl : fn = Tryd.f3 := (Option.some.inj (Tryd.func3.symm.trans hfn)).symm
      exact ⟨by kernel_rfl, fun j t ht => by
        rw [Tryd.params3] at ht
        have hm : t ∈ [24, 26, 2] := by simpa using Array.mem_of_getElem? ht
        have hall : ([24, 26, 2].all fun u => !Tryd.prog.wantsStandIn u) = true := by kernel_rfl
        exact (show Tryd.prog.wantsStandIn t = false by simpa using List.all_eq_true.1 hall t hm)⟩)
    (by kernel_rfl)
#print axioms fnExactStripChecksCard_holds
end Go.Proofs.YtjlnfficehomhaaDoor
