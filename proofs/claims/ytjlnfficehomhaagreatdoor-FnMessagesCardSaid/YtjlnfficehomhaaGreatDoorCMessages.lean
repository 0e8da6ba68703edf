/- Proved: laws.FnMessages returns true for every input that its parameters can hold, and each argument reads afterwards as it read before: the tied card (three tables of the library read as the program's text lays them). No other condition. -/
import Derived.Test.YtjlnfficehomhaaGreatDoorHead
import Derived.Test.YtjlnfficehomhaaGreatDoorLibC
import Derived.Test.YtjlnfficehomhaaGreatDoorPMessages
import Derived.Test.YtjlnfficehomhaaGreatDoorCards
import Derived.Test.YtjlnfficehomhaaGreatDoorTie
import Derived.SevenTiedAt
import Derived.LaidMore
import Derived.Stop.Joined
namespace Go.Proofs.YtjlnfficehomhaaGreatDoor
open Go Go.H Go.ChangeShapes Go.WideShapes Go.ChangeAt Go.RowKit
set_option linter.unusedVariables false
theorem own : ownKnob Tryz.prog.godebug = none := by kernel_rfl
theorem laidOut : laidOutB Tryz.prog = true := by kernel_rfl
theorem Tryz.cells5 : Tryz.prog.cellsOf 5 = 1 := by kernel_rfl

/-- the tables that the row lists -/
def laid3 : List (String × DataW Unit) := Rows.fnMessagesRow.laid
theorem gTab : (laid3[1]?).bind (fun x => Tryz.prog.globalNamed x.1) = some 4 := by kernel_rfl
theorem tTab : (Tryz.prog.globals[4]?).map (·.type) = some 157 := by kernel_rfl
theorem cells5 : Tryz.prog.cellsOf 5 = 1 := by kernel_rfl

/-- the door's own heap meets the condition -/
theorem door_met (os : Os) (args : Array Value) : laidMetH Tryz.prog laid3 ((World.doorLaid Tryz.prog 400 os).forCall (fun _ _ => 0) ⟨#[], args, []⟩).memory :=
  laidMetH_of_parts3 (fuel := 8) (laidMet_of_run' 8 (by kernel_rfl) (by kernel_rfl)) (by kernel_rfl) (by kernel_rfl)

set_option maxRecDepth 100000 in
/-- what the condition gives the walk: the one place that is read -/
theorem of_laid {W : World} (h : laidMetH Tryz.prog laid3 W) : TabH W.heap := by
  rw [MakeChecks.laidMetH_plain _ _ _ (by kernel_rfl)] at h
  obtain ⟨ps, ⟨g0, t0, cs0, f0, p0, q0, hg0, ht0, hv0, hd0, ⟨g1, t1, cs1, f1, p1, q1, hg1, ht1, hv1, hd1, _⟩, _⟩, _⟩ := h
  obtain rfl : 4 = g1 := Option.some.inj (gTab.symm.trans hg1)
  obtain rfl := Option.some.inj (tTab.symm.trans ht1)
  obtain ⟨xs, m1, rfl, hx1, hlen, hn3, hel⟩ := DataW.trod_array Tryz.underlying157 hd1
  have h0 := hel 15 (by decide)
  rw [cells5, Nat.mul_one] at h0
  simp only [Prod.mk.injEq] at hx1
  have hx2 := hx1.1
  unfold Rows.laid_math_bits_deBruijn64tab at hx2
  simp only [DataW.agg.injEq] at hx2
  have h15 : (xs.map (·.1))[15]? = some (.lit (.int .u8 4)) := by rw [← hx2]; rfl
  rw [List.getElem?_map] at h15
  obtain ⟨x15, hx15, he15⟩ := Option.map_eq_some_iff.1 h15
  rw [hx15] at h0
  obtain ⟨k, e1, e2, _⟩ := DataW.trod_int Tryz.underlying5 h0
  have hk : k = 4 := by
    have := he15
    rw [e2] at this
    simpa using this
  subst hk
  have hc := World.var?_cell hg1 hv1 15
  have hl : cs1.toList[15]? = some (.int .u8 4) := by
    have h2 : ((cs1.toList.drop 15).take 1)[0]? = some (.int .u8 4) := by rw [e1]; rfl
    rw [List.getElem?_take_of_lt (by decide), List.getElem?_drop] at h2
    exact h2
  show (hw W.heap).cell? ⟨4, 15, none⟩ = _
  rw [← cell_hw rfl, hc, ← Array.getElem?_toList]
  exact hl

set_option maxHeartbeats 4000000 in
set_option maxRecDepth 100000 in
theorem lifted (os : Os) (started : os.Started) (H : Type) (enc : TypeId × Value → H) :
    ReturnsInHanded {} Tryz.checked os 3 .any (fun w args => (Rows.fnMessagesSpec.pre enc Tryz.prog Tryz.f3 [] false w args ∧ laidMetH Tryz.prog laid3 w) ∧ sizedMet enc Tryz.prog Tryz.f3 (OpenSpec.ofChange Rows.fnMessagesSpec) false w args)
      (Rows.fnMessagesSpec.post enc Tryz.prog Tryz.f3 false true false false) := by
  refine returnsInHanded_of_change_and (C := Tryz.checked) (X := fun w _ => laidMetH Tryz.prog laid3 w) (fun _ _ _ hh h => h.of_heap hh) own started (by kernel_rfl) Tryz.func3
    (ChangeSpec.witness_shaped (enc := enc) (C := Tryz.checked) (os := os) (X := fun w _ => laidMetH Tryz.prog laid3 w) false (World.doorLaid Tryz.prog 400 os) #[.slice none 0 0, .slice none 0 0] 8 rfl (World.shaped_of_RefB (by kernel_rfl) (by kernel_rfl)) (by kernel_rfl) (by kernel_rfl) (by kernel_rfl) (door_met os _)) ?_
  intro W base args ds gs before hval0 hW hcnd _ hLaid _
  have hval : ∀ (j : Nat) t v, Tryz.f3.params[j]? = some t → args[j]? = some v → Value.okWide Tryz.prog W .any base t v := hval0
  have hW' := hW
  obtain ⟨p, q, hA0, hV, rfl, hfz, hnd⟩ := hW
  have hA : DataW.TrodAll enc Tryz.prog W 0 (fun _ => true) true Tryz.f3.params.toList args.toList ds p := hA0
  rw [Tryz.params3] at hA hval
  obtain ⟨v0, vs0, d0, ds0, p0, q0, hargs, rfl, rfl, h0, r0⟩ := trodAll_cons hA
  obtain ⟨v1, vs1, d1, ds1, p1, q1, rfl, rfl, rfl, h1, r1⟩ := trodAll_cons r0
  obtain ⟨rfl, rfl, rfl⟩ := trodAll_nil r1
  obtain rfl : args = #[v0, v1] := by cases args; simp_all
  obtain ⟨rfl, rfl⟩ := trodVars_none hV
  have k0 := h0
  have lt0 : ∀ x ∈ p0, x.block < W.heap.size := by obtain ⟨m, hm⟩ := k0; exact DataW.trod_lt m _ _ _ hm
  have k1 := h1
  have lt1 : ∀ x ∈ p1, x.block < W.heap.size := by obtain ⟨m, hm⟩ := k1; exact DataW.trod_lt m _ _ _ hm
  obtain ⟨a0, gr0, ln0⟩ := argL (K := kR .u8) Tryz.underlying22 Tryz.cells5 rfl (each_R Tryz.underlying5) (hval 0 22 v0 rfl rfl) h0
  obtain ⟨g0, rg0⟩ := SL.range gr0
  obtain ⟨a1, gr1, ln1⟩ := argL (K := kR .u8) Tryz.underlying22 Tryz.cells5 rfl (each_R Tryz.underlying5) (hval 1 22 v1 rfl rfl) h1
  obtain ⟨g1, rg1⟩ := SL.range gr1
  clear hA0 hval0
  have hp : laws_FnMessages a0 a1 = some true := laws_FnMessages_true a0 a1 rg0 rg1
  refine (laws_FnMessages_ok W.heap (of_laid hLaid) _ _ g0 _ _ g1 _ hp W rfl).mono fun e W' ⟨v, he, hs, hv, hx⟩ => ?_
  subst hv
  subst he
  have bel : Below W.heap.size W W' := below_of hs rfl (Mod.ext hx.1)
  exact ⟨_, rfl, _, _, _, [], _, [], hW', trodAll_mk1 (shut_bool Tryz.underlying4 _), (trodAll_cons_mk (Below.trod laidOut (by kernel_rfl) (of_decide_eq_true (by kernel_rfl)) k0 bel lt0) (trodAll_cons_mk (Below.trod laidOut (by kernel_rfl) (of_decide_eq_true (by kernel_rfl)) k1 bel lt1) trodAll_mk0)), rfl, bel.frame _, fun h => by cases h⟩

theorem closed : joinedFacts Tryz.prog 3 Tryz.f3 Rows.fnMessagesSpec Rows.fnMessagesRow = true := by
  unfold joinedFacts
  rw [Tryz.enters, Tryz.lifts, Tryz.makes]
  kernel_rfl
theorem fnMessages_holds : Rows.FnMessagesSaid :=
  OpenClaim.holds_of_wide 3 Tryz.f3 rfl rfl rfl rfl rfl rfl rfl ⟨rfl, rfl, rfl, rfl, rfl⟩ rfl rfl rfl rfl rfl (by kernel_rfl) Tryz.func3 closed
    (of_decide_eq_true (by kernel_rfl)) (by unfold Func.isWrapper; first | (rw [if_pos (by decide +kernel)]; kernel_rfl) | (rw [if_neg (by decide +kernel)]; exact ⟨rfl, rfl⟩))
    (fun os started H enc _ => lifted os started H enc)
theorem fnMessagesCard_holds : Rows.FnMessagesCardSaid :=
  Claim7.holds_tied_plain_at .later [] [.data, .data, .data] true (true, "8aa661a5118cb65e129228b769f53db7a3af96f998a9c46a5bdecdb216a63613") false
    fnMessages_holds (fun _ h => by cases h) (by kernel_rfl) (fun _ h => by cases h) fnMessages_row_tie rfl ⟨rfl, rfl⟩ (by kernel_rfl) rfl
    (fun f fn hf hfn => by
      obtain rfl : f = 3 := Option.some.inj ((show Tryz.prog.funcNamed Rows.fnMessagesRow.func = some 3 by kernel_rfl).symm.trans hf) |>.symm
      obtain rfl : fn = Tryz.f3 := (Option.some.inj (Tryz.func3.symm.trans hfn)).symm
      exact ⟨by kernel_rfl, fun j t ht => by
        rw [Tryz.params3] at ht
        have hm : t ∈ [22, 22] := by simpa using Array.mem_of_getElem? ht
        have hall : ([22, 22].all fun u => !Tryz.prog.wantsStandIn u) = true := by kernel_rfl
        exact (show Tryz.prog.wantsStandIn t = false by simpa using List.all_eq_true.1 hall t hm)⟩)
    (by kernel_rfl)
#print axioms fnMessagesCard_holds
end Go.Proofs.YtjlnfficehomhaaGreatDoor
