/- The fields that are drawn hold numbers of 32 bits. -/
import Derived.Test.YtjlnfficehomhaaGreatDoorPDraw2
set_option linter.unusedVariables false
namespace Go.H
open Go Ieee

def Sm (z : Option Nat) : Prop := ∀ b, z = some b → b < 4294967296
theorem Sm.zero : Sm (some 0) := by rintro b ⟨⟩; omega
theorem Sm.fop (op : BinOp) (x y : Option Nat) : Sm (fop op .f32 x y) := by
  intro b hb
  unfold Go.H.fop at hb
  obtain ⟨u, _, hb⟩ := Option.bind_eq_some_iff.1 hb
  obtain ⟨v, _, hb⟩ := Option.bind_eq_some_iff.1 hb
  exact floatBits_lt hb
theorem Sm.from {n : Int} {v : Option Nat} (h : spec_l01From n = some v) : Sm v := by
  unfold spec_l01From ffrom at h
  obtain ⟨x, hx, h⟩ := Option.bind_eq_some_iff.1 h
  obtain ⟨c, hx⟩ := of_ite hx
  cases h
  cases hx
  intro b hb
  have := (cls_some.1 hb).1
  subst this
  exact c.2
theorem plain_sm {a : List Int} {p s : Int} {r : Option Nat × Int × Int} (h : spec_l01DrawPlain a p s = some r) : Sm r.1 := by
  unfold spec_l01DrawPlain at h
  obtain ⟨x1, _, h⟩ := Option.bind_eq_some_iff.1 h
  obtain ⟨x2, _, h⟩ := Option.bind_eq_some_iff.1 h
  split at h
  · cases h; dsimp only; exact Sm.fop _ _ _
  · cases h; dsimp only; exact Sm.fop _ _ _
theorem float_sm {a : List Int} {p s : Int} {r : Option Nat × Int × Int} (h : spec_l01DrawFloat a p s = some r) : Sm r.1 := by
  unfold spec_l01DrawFloat at h
  obtain ⟨x1, _, h⟩ := Option.bind_eq_some_iff.1 h
  split at h
  · obtain ⟨x2, h2, h⟩ := Option.bind_eq_some_iff.1 h
    cases h
    exact plain_sm h2
  · obtain ⟨x3, _, h⟩ := Option.bind_eq_some_iff.1 h
    split at h
    · obtain ⟨x4, _, h⟩ := Option.bind_eq_some_iff.1 h
      obtain ⟨x5, h5, h⟩ := Option.bind_eq_some_iff.1 h
      cases h
      exact Sm.from h5
    · split at h
      · obtain ⟨x6, _, h⟩ := Option.bind_eq_some_iff.1 h
        obtain ⟨x7, _, h⟩ := Option.bind_eq_some_iff.1 h
        obtain ⟨x8, h8, h⟩ := Option.bind_eq_some_iff.1 h
        cases h
        exact Sm.from h8
      · split at h
        · obtain ⟨x9, _, h⟩ := Option.bind_eq_some_iff.1 h
          obtain ⟨x10, h10, h⟩ := Option.bind_eq_some_iff.1 h
          cases h
          exact Sm.from h10
        · obtain ⟨x11, _, h⟩ := Option.bind_eq_some_iff.1 h
          obtain ⟨x12, _, h⟩ := Option.bind_eq_some_iff.1 h
          obtain ⟨x13, _, h⟩ := Option.bind_eq_some_iff.1 h
          cases h
          dsimp only
          exact Sm.fop _ _ _

theorem ite_none {α : Type} {p : Prop} [Decidable p] {x : Option α} {y : α} (h : (if p then none else x) = some y) : x = some y := by
  by_cases c : p
  · rw [if_pos c] at h; cases h
  · rw [if_neg c] at h; exact h

theorem loopF_inv {S E : Type} {step : S → Option (S ⊕ E)} (I : S → Prop) (hs : ∀ s s', I s → step s = some (.inl s') → I s') {s : S} {e : E} (h : loopF step s = some e) (h0 : I s) : ∃ s', I s' ∧ step s' = some (.inr e) := by
  obtain ⟨n, hn⟩ := loopF_run h
  clear h
  induction n generalizing s with
  | zero => cases hn
  | succ n ih =>
    unfold Go.H.runN at hn
    obtain ⟨r, hr, hn⟩ := Option.bind_eq_some_iff.1 hn
    cases r with
    | inl s' => exact ih (hs s s' h0 hr) hn
    | inr e' =>
      simp only at hn
      cases hn
      exact ⟨s, h0, hr⟩

theorem setF_sm {l l' : List (Option Nat)} {n : Int} {z : Option Nat} (h : setF l n z = some l') (hl : ∀ y ∈ l, Sm y) (hz : Sm z) : ∀ y ∈ l', Sm y := by
  unfold setF at h
  obtain ⟨_, h⟩ := of_ite h
  cases h
  intro y hy
  rcases List.mem_or_eq_of_mem_set hy with h1 | h1
  · exact hl y h1
  · rw [h1]; exact hz

theorem draw_s0 {a : List Int} {x4 : Int} {x6 : Int × Int × Int} {s s' : Int × Int × Int × List (Option Nat) × List (Option Nat) × List (Option Nat)} (h : spec_l02DrawField.s0 a x4 x6 s.1 s.2.1 s.2.2.1 s.2.2.2.1 s.2.2.2.2.1 s.2.2.2.2.2 = some (.inl s')) (hE : ∀ z ∈ s.2.2.2.1, Sm z) : ∀ z ∈ s'.2.2.2.1, Sm z := by
  unfold spec_l02DrawField.s0 at h
  split at h
  · obtain ⟨r, hr, h⟩ := Option.bind_eq_some_iff.1 h
    cases h
    obtain ⟨q, _, hr⟩ := Option.bind_eq_some_iff.1 hr
    simp only at hr
    split at hr
    · cases hr; exact hE
    · obtain ⟨x30, _, hr⟩ := Option.bind_eq_some_iff.1 hr
      obtain ⟨x31, _, hr⟩ := Option.bind_eq_some_iff.1 hr
      obtain ⟨x32, h32, hr⟩ := Option.bind_eq_some_iff.1 hr
      have s32 := setF_sm h32 hE (Sm.fop _ _ _)
      obtain ⟨x33, _, hr⟩ := Option.bind_eq_some_iff.1 hr
      obtain ⟨x43, _, hr⟩ := Option.bind_eq_some_iff.1 hr
      obtain ⟨x47, h47, hr⟩ := Option.bind_eq_some_iff.1 hr
      cases hr
      split at h47
      · obtain ⟨x50, h50, h47⟩ := Option.bind_eq_some_iff.1 h47
        obtain ⟨x51, _, h47⟩ := Option.bind_eq_some_iff.1 h47
        obtain ⟨x52, h52, h47⟩ := Option.bind_eq_some_iff.1 h47
        cases h47
        exact setF_sm h52 s32 (float_sm h50)
      · cases h47
        exact s32
  · cases h
theorem draw_s0e {a : List Int} {x4 : Int} {x6 : Int × Int × Int} {s : Int × Int × Int × List (Option Nat) × List (Option Nat) × List (Option Nat)} {e : Int × Bool × Int × Int × List (Option Nat) × List (Option Nat) × List (Option Nat)} (h : spec_l02DrawField.s0 a x4 x6 s.1 s.2.1 s.2.2.1 s.2.2.2.1 s.2.2.2.2.1 s.2.2.2.2.2 = some (.inr e)) (hE : ∀ z ∈ s.2.2.2.1, Sm z) : ∀ z ∈ e.2.2.2.2.1, Sm z := by
  unfold spec_l02DrawField.s0 at h
  split at h
  · obtain ⟨r, hr, h⟩ := Option.bind_eq_some_iff.1 h
    cases h
  · cases h
    exact hE
theorem draw_s1 {a0 a1 : Int} {b : Bool} {l m : List (Option Nat)} {x4 : Int} {s s' : Int × List (Option Nat) × List (Option Nat) × List (Option Nat)} (h : spec_l02DrawField.s1 a0 a1 b l m x4 s.1 s.2.1 s.2.2.1 s.2.2.2 = some (.inl s')) (hE : ∀ z ∈ s.2.1, Sm z) : ∀ z ∈ s'.2.1, Sm z := by
  unfold spec_l02DrawField.s1 at h
  by_cases c : decide (s.1 < x4) = true
  · rw [if_pos c] at h
    have h := ite_none (ite_none h)
    obtain ⟨x64, _, h⟩ := Option.bind_eq_some_iff.1 h
    obtain ⟨x65, h65, h⟩ := Option.bind_eq_some_iff.1 h
    have s65 : ∀ z ∈ x65, Sm z := by
      split at h65
      · obtain ⟨x66, _, h65⟩ := Option.bind_eq_some_iff.1 h65
        obtain ⟨x67, h67, h65⟩ := Option.bind_eq_some_iff.1 h65
        cases h65
        exact setF_sm h67 hE Sm.zero
      · cases h65; exact hE
    have h := ite_none h
    obtain ⟨x68, _, h⟩ := Option.bind_eq_some_iff.1 h
    have h := ite_none h
    obtain ⟨x71, _, h⟩ := Option.bind_eq_some_iff.1 h
    cases h
    exact s65
  · rw [if_neg c] at h
    cases h
theorem draw_s1e {a0 a1 : Int} {b : Bool} {l m : List (Option Nat)} {x4 : Int} {s : Int × List (Option Nat) × List (Option Nat) × List (Option Nat)} {e : Int × Bool × List (Option Nat) × List (Option Nat) × List (Option Nat)} (h : spec_l02DrawField.s1 a0 a1 b l m x4 s.1 s.2.1 s.2.2.1 s.2.2.2 = some (.inr e)) (hE : ∀ z ∈ s.2.1, Sm z) : ∀ z ∈ e.2.2.1, Sm z := by
  unfold spec_l02DrawField.s1 at h
  by_cases c : decide (s.1 < x4) = true
  · rw [if_pos c] at h
    have h := ite_none (ite_none h)
    obtain ⟨x64, _, h⟩ := Option.bind_eq_some_iff.1 h
    obtain ⟨x65, _, h⟩ := Option.bind_eq_some_iff.1 h
    have h := ite_none h
    obtain ⟨x68, _, h⟩ := Option.bind_eq_some_iff.1 h
    have h := ite_none h
    obtain ⟨x71, _, h⟩ := Option.bind_eq_some_iff.1 h
    cases h
  · rw [if_neg c] at h
    cases h
    exact hE

theorem field_sm {a : List Int} {w h : Int} {b : Bool} {l m : List (Option Nat)} {r : List (Option Nat) × List (Option Nat) × List (Option Nat)} (hr : spec_B10Field a w h b l m = some r) : ∀ z ∈ r.1, Sm z := by
  unfold spec_B10Field at hr
  obtain ⟨x1, _, hr⟩ := Option.bind_eq_some_iff.1 hr
  obtain ⟨x2, h2, hr⟩ := Option.bind_eq_some_iff.1 hr
  cases hr
  simp only
  unfold spec_l02DrawField at h2
  obtain ⟨y1, _, h2⟩ := Option.bind_eq_some_iff.1 h2
  obtain ⟨y2, _, h2⟩ := Option.bind_eq_some_iff.1 h2
  obtain ⟨y3, _, h2⟩ := Option.bind_eq_some_iff.1 h2
  obtain ⟨y4, _, h2⟩ := Option.bind_eq_some_iff.1 h2
  obtain ⟨y5, h5, h2⟩ := Option.bind_eq_some_iff.1 h2
  obtain ⟨y6, _, h2⟩ := Option.bind_eq_some_iff.1 h2
  obtain ⟨y13, h13, h2⟩ := Option.bind_eq_some_iff.1 h2
  have hz : ∀ z ∈ y5.1, Sm z := by
    unfold spec_l02Zero at h5
    obtain ⟨_, h5⟩ := of_ite h5
    obtain ⟨_, h5⟩ := of_ite h5
    obtain ⟨_, h5⟩ := of_ite h5
    cases h5
    intro z hz
    rw [(List.mem_replicate.1 hz).2]
    exact Sm.zero
  obtain ⟨s0, i0, e0⟩ := loopF_inv (fun s => ∀ z ∈ s.2.2.2.1, Sm z) (fun s s' hI hs => draw_s0 hs hI) h13 hz
  have z13 := draw_s0e e0 i0
  simp only at h2
  obtain ⟨y53, _, h2⟩ := Option.bind_eq_some_iff.1 h2
  split at h2
  · cases h2
    exact z13
  · obtain ⟨y59, h59, h2⟩ := Option.bind_eq_some_iff.1 h2
    cases h2
    obtain ⟨s1, i1, e1⟩ := loopF_inv (fun s => ∀ z ∈ s.2.1, Sm z) (fun s s' hI hs => draw_s1 hs hI) h59 z13
    exact draw_s1e e1 i1
end Go.H
