/- The library: frames told in part, a judgement on code over them, floats. -/
import Derived.Test.YtmgoblppedmdhaaLib1
import Derived.OrdersHeld
import Derived.MapKept
/- Regions that draw their order, where a copy may come late: behind the first of the operations that follow one another. -/
set_option linter.unusedVariables false
namespace Go.H
open Go

section
variable {P : Program} {N : Nat} {Q : Exit → Fr → Heap → Prop} {ops : List Oper}

/-- the tail's operations follow one another, and wait for all but the late ones -/
def tailL (ops : List Oper) (nb : Nat) (lates : List Nat) : Bool :=
  (List.range (ops.length - nb)).all fun k => (depsOf ops (nb + k)).all (fun e => decide (e < nb + k)) &&
    (List.range (nb + k)).all (fun i => (closeDown ops (nb + k) (depsOf ops (nb + k))).contains i || lates.contains i)

/-- a late operation has nothing to do with the others that may be open -/
def freeL (ops : List Oper) (nb : Nat) (lates : List Nat) (i : Nat) : Bool :=
  match ops[i]? with
  | none => false
  | some oi => (List.range ops.length).all fun j => j == i || (decide (j < nb) && !lates.contains j) || match ops[j]? with
      | some oj => oj.after.any (fun e => Region.binds .any e && e.on == i) || oi.apart ops.toArray oj
      | none => true

/-- an operation that gives its value in each world and turns nothing -/
def OpY (P : Program) (φ : Fr) (o : Oper) (u : Value) : Prop := ∀ (a : Act), (∀ x v, φ.ev x = some v → a.eval x = v) → ∀ w, (execOp a.eval o).run P w = .ok (.value u) w

def LateOK (P : Program) (ops : List Oper) (φ : Fr) (h : Heap) (S : Nat → Value → Heap → Prop) (Bl : List (Option (Value → List (Option Nat)))) (Ll : List (Option (Nat × (Value → Value)))) (dl : List (List Nat)) (i : Nat) : Prop :=
  ∃ ds o, dl[i]? = some ds ∧ ops[i]? = some o ∧ o.guard = none ∧ ds.all (fun j => (depsOf ops i).contains j) = true ∧ ∀ h', Ext h h' → Dep ops S h' ds φ (fun φ' => ∃ u, OpY P φ' o u ∧ KL (nthL Ll i) φ' (KM (nthB Bl i) (S i) h') u h')
inductive LatesOK (P : Program) (ops : List Oper) (φ : Fr) (h : Heap) (S : Nat → Value → Heap → Prop) (Bl : List (Option (Value → List (Option Nat)))) (Ll : List (Option (Nat × (Value → Value)))) (dl : List (List Nat)) : List Nat → Prop
  | nil : LatesOK P ops φ h S Bl Ll dl []
  | cons {i : Nat} {l : List Nat} : LateOK P ops φ h S Bl Ll dl i → LatesOK P ops φ h S Bl Ll dl l → LatesOK P ops φ h S Bl Ll dl (i :: l)
theorem LatesOK.mem {φ : Fr} {h : Heap} {S : Nat → Value → Heap → Prop} {Bl : List (Option (Value → List (Option Nat)))} {Ll : List (Option (Nat × (Value → Value)))} {dl : List (List Nat)} {l : List Nat} (H : LatesOK P ops φ h S Bl Ll dl l) : ∀ {i : Nat}, i ∈ l → LateOK P ops φ h S Bl Ll dl i := by
  induction H with
  | nil => intro i hi; cases hi
  | cons h1 _ ih =>
    intro i hi
    rcases List.mem_cons.1 hi with rfl | hi
    · exact h1
    · exact ih hi

theorem late_case {Bl : List (Option (Value → List (Option Nat)))} {Ll : List (Option (Nat × (Value → Value)))} {dl : List (List Nat)} {Sl : List (Value → Heap → Prop)} {φ : Fr} {h : Heap} {w0 : World} {Qw : Exit → Act → World → Prop}
    (hB : bodyOK N ops dl.length = true) {lates : List Nat} (hφ : clearB ops dl.length φ = true) (stable : StableL Ext Sl) (hTl : lates.all (fun i => decide (i < dl.length)) = true) (hns : Region.noSelect ops.toArray = true) (hfr : lates.all (fun i => freeL ops dl.length lates i) = true) (hQp : ∀ c a w, ¬ Qw (.panic c) a w)
    (hLn : linksOK ops Ll dl.length = true) (lsteps : ∀ i, i ∈ lates → LateOK P ops φ h (nthS Sl) Bl Ll dl i)
    {m : Nat} {listed : Array Bool} {a : Act} {w : World} (hc : cnt listed.toList = m + 1) (I : InvM Bl Ll N ops dl.length (nthS Sl) φ h w0 listed a w) (hall : ¬ ∀ i, i < dl.length → listed.getD i false = true)
    (hlate : ∀ i, i < dl.length → lates.contains i = false → listed.getD i false = true)
    (ih : ∀ (listed : Array Bool) (a : Act) (w : World), cnt listed.toList = m → InvM Bl Ll N ops dl.length (nthS Sl) φ h w0 listed a w → wpAny P .any ops.toArray Qw m listed a w) : wpAny P .any ops.toArray Qw (m + 1) listed a w := by
  have hne : ∃ i, i < dl.length ∧ listed.getD i false = false ∧ ∀ k, k < i → listed.getD k false = true := by
    have hex : ∃ i, i < dl.length ∧ listed.getD i false = false := by
      refine Classical.byContradiction fun hno => hall fun i hi => ?_
      cases hb : listed.getD i false with
      | true => rfl
      | false => exact absurd ⟨i, hi, hb⟩ hno
    obtain ⟨i, hi⟩ := hex
    induction i using Nat.strongRecOn with
    | _ i ihi =>
      by_cases hk : ∀ k, k < i → listed.getD k false = true
      · exact ⟨i, hi.1, hi.2, hk⟩
      · have : ∃ k, k < i ∧ listed.getD k false = false := by
          refine Classical.byContradiction fun hno => hk fun k hki => ?_
          cases hb : listed.getD k false with
          | true => rfl
          | false => exact absurd ⟨k, hki, hb⟩ hno
        obtain ⟨k, hki, hkf⟩ := this
        exact ihi k hki ⟨by omega, hkf⟩
  obtain ⟨i, hib, hf0, hlow⟩ := hne
  obtain ⟨o, d, ho, hd, hdN, hdep0, _⟩ := body_spec hB hib
  have hil : i < ops.length := (List.getElem?_eq_some_iff.1 ho).1
  have hls : i < listed.size := by rw [I.inv.len]; exact hil
  have hil' : i ∈ lates := by
    cases hcl : lates.contains i with
    | true => simpa using hcl
    | false => have := hlate i hib hcl; rw [hf0] at this; cases this
  have h3 : ∀ e ∈ depsOf ops i, listed.getD e false = true := fun e he => hlow e (hdep0 e he)
  have hr0 : i ∈ Region.ready .any ops.toArray listed := ready_of (by
    simp only [hls, Array.getD_eq_getD_getElem?, Array.getElem?_eq_getElem, Option.getD_some] at hf0 ⊢; exact hf0) hil h3
  obtain ⟨ds, o', hds, ho', hgd, hsub, hstep⟩ := lsteps i hil'
  rw [ho] at ho'
  cases ho'
  have hokφ : Ok N φ a := ⟨I.inv.defers, I.inv.size, I.inv.base⟩
  obtain ⟨ψ, hψ, u, hY, hK⟩ := Dep.run I.inv ds φ _ (fun j hj => h3 j (by simpa using List.all_eq_true.1 hsub j hj)) hokφ (hstep w.heap I.inv.ext)
  have hcn : cnt (listed.setIfInBounds i true).toList = m := by
    have hfl : listed.toList[i]? = some false := by
      simp only [hls, Array.getD_eq_getD_getElem?, Array.getElem?_eq_getElem, Option.getD_some] at hf0
      simp [hls, hf0]
    have := cnt_set listed.toList i hfl
    rw [Array.toList_setIfInBounds]
    omega
  have ho2 : ops.toArray[i]? = some o := by simpa using ho
  refine wpAny_take ho2 hns ?_ (by simpa using hr0) (fun c a w hq => absurd hq (hQp c _ w)) (.inl ⟨by simp [Region.wanted, hgd], hY a (fun x v => hψ.eval)⟩) (ih _ _ _ hcn (I.put hB hφ (fun k _ _ _ => stable.nth k) hib hf0 ho h3 I.inv.same hψ hLn hK))
  -- free of the others
  have hfi := List.all_eq_true.1 hfr i hil'
  unfold freeL at hfi
  rw [ho] at hfi
  unfold Region.free
  rw [ho2]
  simp only at hfi ⊢
  rw [List.all_eq_true] at hfi ⊢
  intro j hj
  have hjl : j < ops.length := by simpa using hj
  have h1 := hfi j (by simpa using hjl)
  have e2 : ops.toArray[j]? = ops[j]? := by simp
  rw [e2]
  by_cases hnl : (decide (j < dl.length) && !lates.contains j) = true
  · simp only [Bool.and_eq_true, decide_eq_true_eq, Bool.not_eq_true'] at hnl
    have h5 := hlate j hnl.1 hnl.2
    have h6 := getD_true_of h5
    rw [h6]
    simp
  · have hnl' : (decide (j < dl.length) && !lates.contains j) = false := by simpa using hnl
    rw [hnl', Bool.or_false] at h1
    rw [Bool.or_eq_true] at h1 ⊢
    rcases h1 with h1 | h1
    · exact .inl (by rw [h1]; rfl)
    · exact .inr h1

theorem tail_anyL {nb : Nat} {lates : List Nat} (hT : tailL ops nb lates = true) (hTl : lates.all (fun i => decide (i < nb)) = true) (Qw : Exit → Act → World → Prop) : ∀ (m k : Nat) (listed : Array Bool) (a : Act) (w : World), nb ≤ k → k + m = ops.length → listed.size = ops.length → Upto k listed → Down ops listed →
    wpList P ops.toArray Qw (ops.drop k) a w → wpAny P .any ops.toArray Qw m listed a w := by
  intro m
  induction m with
  | zero =>
    intro k listed a w hk hm hs hu _ H
    have hn : Region.ready .any ops.toArray listed = [] := by
      refine List.eq_nil_iff_forall_not_mem.2 fun i hi => ?_
      obtain ⟨h1, h2, _⟩ := ready_deps hi
      have := (hu i (by omega)).2 (by omega)
      have := getD_true_of this
      rw [h1] at this; cases this
    refine ⟨hn, ?_⟩
    rw [List.drop_eq_nil_of_le (by omega)] at H
    exact H
  | succ m ih =>
    intro k listed a w hk hm hs hu hd H
    have hT' := List.all_eq_true.1 hT (k - nb) (by simp; omega)
    rw [show nb + (k - nb) = k from by omega, Bool.and_eq_true] at hT'
    have hdep : ∀ e ∈ depsOf ops k, listed.getD e false = true := fun e he => by
      have := List.all_eq_true.1 hT'.1 e he
      have := of_decide_eq_true this
      exact (hu e (by omega)).2 this
    have hk0 : listed.getD k true = false := by
      have hlt : k < listed.size := by omega
      have h1 : ¬ listed.getD k false = true := fun h => by have := (hu k hlt).1 h; omega
      simp [hlt] at h1 ⊢
      exact h1
    have hr : k ∈ Region.ready .any ops.toArray listed := ready_of hk0 (by omega) hdep
    refine ⟨fun h => (by rw [h] at hr; cases hr), fun i hi => ?_⟩
    obtain ⟨h1, h2, h3⟩ := ready_deps hi
    have hik : i = k := by
      have hi1 : ¬ i < k := fun hlt => by
        have := getD_true_of ((hu i (by omega)).2 hlt)
        rw [h1] at this; cases this
      have hi2 : ¬ k < i := fun hlt => by
        have hTi := List.all_eq_true.1 hT (i - nb) (by simp; omega)
        rw [show nb + (i - nb) = i from by omega, Bool.and_eq_true] at hTi
        have := List.all_eq_true.1 hTi.2 k (by simp; omega)
        have hlk : lates.contains k = false := by
          cases hc : lates.contains k with
          | false => rfl
          | true =>
            have := List.all_eq_true.1 hTl k (by simpa using hc)
            simp at this
            omega
        rw [hlk, Bool.or_false] at this
        have := closeDown_listed hd i (depsOf ops i) h3 k (by simpa using this)
        have := (hu k (by omega)).1 this
        omega
      omega
    subst hik
    rw [List.drop_eq_getElem_cons h2] at H
    unfold wpOp
    have hl' : ops.toArray[i]? = some ops[i] := by simp
    rw [hl']
    simp only [wpList] at H
    have next : ∀ a w, wpList P ops.toArray Qw (ops.drop (i + 1)) a w → wpAny P .any ops.toArray Qw m (listed.setIfInBounds i true) a w := by
      intro a w H
      refine ih (i + 1) _ a w (by omega) (by omega) (by simp [hs]) ?_ (down_set hd h3) H
      intro j hj
      have hj' : j < listed.size := by simpa using hj
      by_cases hij : i = j
      · subst hij; simp [hj']
      · have := hu j hj'
        simp only [Array.getD_eq_getD_getElem?, Array.getElem?_setIfInBounds_ne hij] at this ⊢
        rw [this]; omega
    by_cases hw : Region.wanted ops[i] (yielded ops.toArray a.tmps) = true
    · rw [if_pos hw] at H
      simp only [hw, if_true]
      exact H.imp (Oper.wp_mono next) id
    · rw [if_neg hw] at H
      simp only [hw]
      exact next _ _ H

theorem body_anyL {Bl : List (Option (Value → List (Option Nat)))} {Ll : List (Option (Nat × (Value → Value)))} {dl : List (List Nat)} {Sl : List (Value → Heap → Prop)} {φ : Fr} {h : Heap} {w0 : World} {Qw : Exit → Act → World → Prop}
    (hB : bodyOK N ops dl.length = true) {lates : List Nat} (hT : tailL ops dl.length lates = true) (hTl : lates.all (fun i => decide (i < dl.length)) = true) (hns : Region.noSelect ops.toArray = true) (hfr : lates.all (fun i => freeL ops dl.length lates i) = true) (hQp : ∀ c a w, ¬ Qw (.panic c) a w) (hφ : clearB ops dl.length φ = true) (hln : dl.length ≤ ops.length)
    (stable : StableL Ext Sl) (steps : StepsM P ops φ h (nthS Sl) Bl Ll 0 dl ops) (hLn : linksOK ops Ll dl.length = true) (lsteps : ∀ i, i ∈ lates → LateOK P ops φ h (nthS Sl) Bl Ll dl i)
    (fin' : ∀ listed a w, InvM Bl Ll N ops dl.length (nthS Sl) φ h w0 listed a w → (∀ i, i < dl.length → listed.getD i false = true) → wpList P ops.toArray Qw (ops.drop dl.length) a w) :
    ∀ (m : Nat) (listed : Array Bool) (a : Act) (w : World), cnt listed.toList = m → InvM Bl Ll N ops dl.length (nthS Sl) φ h w0 listed a w → wpAny P .any ops.toArray Qw m listed a w := by
  intro m
  induction m with
  | zero =>
    intro listed a w hc I
    have hall : ∀ i, i < ops.length → listed.getD i false = true := fun i hi => by
      have := cnt_zero hc i (by simpa [I.inv.len] using hi)
      have : listed[i]? = some true := by simpa using this
      simp [this]
    refine tail_anyL hT hTl Qw 0 ops.length listed a w hln (by omega) I.inv.len (fun i hi => ⟨fun _ => by have := I.inv.len; omega, fun _ => hall i (by have := I.inv.len; omega)⟩) I.inv.down ?_
    have := fin' listed a w I (fun i hi => hall i (by omega))
    rcases Nat.lt_or_ge dl.length ops.length with hlt | hge
    · have h1 := I.inv.notail dl.length (Nat.le_refl _)
      rw [hall _ hlt] at h1; cases h1
    · rw [List.drop_eq_nil_of_le hge] at this
      rw [List.drop_eq_nil_of_le (Nat.le_refl _)]
      exact this
  | succ m ih =>
    intro listed a w hc I
    by_cases hall : ∀ i, i < dl.length → listed.getD i false = true
    · have hu : Upto dl.length listed := by
        intro i _
        refine ⟨fun h1 => ?_, hall i⟩
        rcases Nat.lt_or_ge i dl.length with h | h
        · exact h
        · have := I.inv.notail i h
          rw [this] at h1
          cases h1
      have hm : dl.length + (m + 1) = ops.length := by
        have hsplit : cnt listed.toList = ops.length - dl.length := by
          have e : listed.toList = List.replicate dl.length true ++ List.replicate (ops.length - dl.length) false := by
            refine List.ext_getElem? fun i => ?_
            rcases Nat.lt_or_ge i ops.length with hi | hi
            · have hsz : i < listed.size := by rw [I.inv.len]; exact hi
              rcases Nat.lt_or_ge i dl.length with h | h
              · have := hall i h
                simp only [hsz, Array.getD_eq_getD_getElem?, Array.getElem?_eq_getElem, Option.getD_some] at this
                simp [List.getElem?_append, h, hsz, this]
              · have := I.inv.notail i h
                simp only [hsz, Array.getD_eq_getD_getElem?, Array.getElem?_eq_getElem, Option.getD_some] at this
                rw [List.getElem?_append_right (by simpa using h)]
                simp only [Array.getElem?_toList, hsz, Array.getElem?_eq_getElem, this, List.length_replicate, List.getElem?_replicate]
                rw [if_pos (by omega)]
            · have hsz : ¬ i < listed.size := by rw [I.inv.len]; omega
              rw [List.getElem?_eq_none (by simp; omega), List.getElem?_eq_none (by simp; omega)]
          rw [e]
          simp [cnt, List.count_append, List.count_replicate]
        omega
      exact tail_anyL hT hTl Qw (m + 1) dl.length listed a w (Nat.le_refl _) hm I.inv.len hu I.inv.down (fin' listed a w I hall)
    · by_cases hlate : ∀ i, i < dl.length → lates.contains i = false → listed.getD i false = true
      · exact late_case hB hφ stable hTl hns hfr hQp hLn lsteps hc I hall hlate ih
      have hne : ∃ i, i < dl.length ∧ listed.getD i false = false ∧ ∀ k, k < i → listed.getD k false = true := by
        have hex : ∃ i, i < dl.length ∧ listed.getD i false = false := by
          refine Classical.byContradiction fun hno => hall fun i hi => ?_
          cases hb : listed.getD i false with
          | true => rfl
          | false => exact absurd ⟨i, hi, hb⟩ hno
        obtain ⟨i, hi⟩ := hex
        induction i using Nat.strongRecOn with
        | _ i ihi =>
          by_cases hk : ∀ k, k < i → listed.getD k false = true
          · exact ⟨i, hi.1, hi.2, hk⟩
          · have : ∃ k, k < i ∧ listed.getD k false = false := by
              refine Classical.byContradiction fun hno => hk fun k hki => ?_
              cases hb : listed.getD k false with
              | true => rfl
              | false => exact absurd ⟨k, hki, hb⟩ hno
            obtain ⟨k, hki, hkf⟩ := this
            exact ihi k hki ⟨by omega, hkf⟩
      obtain ⟨i0, hi0, hf0, hlow⟩ := hne
      obtain ⟨o0, d0, ho0, _, _, hdep0, _⟩ := body_spec hB hi0
      have hi0l : i0 < ops.length := (List.getElem?_eq_some_iff.1 ho0).1
      have hr0 : i0 ∈ Region.ready .any ops.toArray listed := ready_of (by
        have : i0 < listed.size := by rw [I.inv.len]; exact hi0l
        simp only [this, Array.getD_eq_getD_getElem?, Array.getElem?_eq_getElem, Option.getD_some] at hf0 ⊢; exact hf0) hi0l (fun e he => hlow e (hdep0 e he))
      refine ⟨fun h => (by rw [h] at hr0; cases hr0), fun i hi => ?_⟩
      obtain ⟨h1, h2, h3⟩ := ready_deps hi
      have hib : i < dl.length := by
        refine Classical.byContradiction fun hge => hlate fun k hk hkl => ?_
        have hTi := List.all_eq_true.1 hT (i - dl.length) (by simp; omega)
        rw [show dl.length + (i - dl.length) = i from by omega, Bool.and_eq_true] at hTi
        have := List.all_eq_true.1 hTi.2 k (by simp; omega)
        rw [hkl, Bool.or_false] at this
        exact closeDown_listed I.inv.down i (depsOf ops i) h3 k (by simpa using this)
      obtain ⟨o, d, ho, hd, hdN, _, _⟩ := body_spec hB hib
      obtain ⟨o', ho', hsub, hstep⟩ := steps.nth i dl[i] (List.getElem?_eq_getElem hib)
      rw [ho] at ho'
      cases ho'
      simp only [Nat.zero_add] at hsub hstep
      have hokφ : Ok N φ a := ⟨I.inv.defers, I.inv.size, I.inv.base⟩
      obtain ⟨ψ, hψ, hG⟩ := Dep.run I.inv dl[i] φ _ (fun j hj => h3 j (by simpa using List.all_eq_true.1 hsub j hj)) hokφ (hstep w.heap I.inv.ext)
      have hcn : cnt (listed.setIfInBounds i true).toList = m := by
        have hlt : i < listed.size := by rw [I.inv.len]; exact h2
        have hfl : listed.toList[i]? = some false := by
          simp only [hlt, Array.getD_eq_getD_getElem?, Array.getElem?_eq_getElem, Option.getD_some] at h1
          simp [hlt, h1]
        have := cnt_set listed.toList i hfl
        rw [Array.toList_setIfInBounds]
        omega
      have hun : listed.getD i false = false := by
        have hlt : i < listed.size := by rw [I.inv.len]; exact h2
        simp only [hlt, Array.getD_eq_getD_getElem?, Array.getElem?_eq_getElem, Option.getD_some] at h1 ⊢
        exact h1
      have next : ∀ v w', Same w0 w' → KL (nthL Ll i) ψ (KM (nthB Bl i) (nthS Sl i) w.heap) v w'.heap → wpAny P .any ops.toArray Qw m (listed.setIfInBounds i true) (a.put o.dst v) w' := fun v w' hs hk =>
        ih _ _ _ hcn (I.put hB hφ (fun k _ _ _ => stable.nth k) hib hun ho h3 hs hψ hLn hk)
      unfold wpOp
      have ho2 : ops.toArray[i]? = some o := by simpa using ho
      rw [ho2]
      simp only
      unfold GuardOK at hG
      cases hg : o.guard with
      | none =>
        rw [hg] at hG
        rw [if_pos (by simp [Region.wanted, hg])]
        exact .inl (OpV.wp hG hψ rfl I.inv.same fun v w' hs hk => next v w' hs hk)
      | some gw =>
        obtain ⟨j, want⟩ := gw
        rw [hg] at hG
        simp only at hG
        cases hdj : dstOf ops j with
        | none => rw [hdj] at hG; exact hG.elim
        | some t =>
          rw [hdj] at hG
          rcases hG with ⟨b, hb, hyes, hno⟩ | ⟨hu, hK⟩
          case inr =>
            have hy : yielded ops.toArray a.tmps j = none := by
              unfold yielded
              have : (ops.toArray[j]?).bind (·.dst) = some t := by simpa [dstOf] using hdj
              rw [this]
              simp [hψ.slot t _ hu, undef]
            rw [if_neg (by simp [Region.wanted, hg, hy])]
            exact next undef w I.inv.same hK
          have hy : yielded ops.toArray a.tmps j = some b := by
            unfold yielded
            have : (ops.toArray[j]?).bind (·.dst) = some t := by simpa [dstOf] using hdj
            rw [this]
            simp [hψ.slot t _ hb]
          by_cases hbw : b = want
          · rw [if_pos (by simp [Region.wanted, hg, hy, hbw])]
            exact .inl (OpV.wp (hyes hbw) hψ rfl I.inv.same fun v w' hs hk => next v w' hs hk)
          · rw [if_neg (by simp [Region.wanted, hg, hy, hbw])]
            exact next undef w I.inv.same (hno hbw)

theorem W.regionL {id : Nat} {φ : Fr} {h : Heap} (Sl : List (Value → Heap → Prop)) (Bl : List (Option (Value → List (Option Nat)))) (Ll : List (Option (Nat × (Value → Value)))) (lates : List Nat) (dl : List (List Nat)) (js : List Nat) (hm : P.follows .mixedOrders = true)
    (hB : bodyOK N ops dl.length = true) (hT : (tailL ops dl.length lates && lates.all (fun i => decide (i < dl.length)) && Region.noSelect ops.toArray && lates.all (fun i => freeL ops dl.length lates i)) = true) (hQp : ∀ c φ h, ¬ Q (.panic c) φ h) (hφ : clearB ops dl.length φ = true) (hjs : js.all (fun j => decide (j < dl.length)) = true) (hnd : nodupB js = true) (hLn : linksOK ops Ll dl.length = true) (hln : Nat.ble dl.length ops.length = true)
    (stable : StableL Ext Sl) (steps : StepsM P ops φ h (nthS Sl) Bl Ll 0 dl ops)
    (lsteps : LatesOK P ops φ h (nthS Sl) Bl Ll dl lates)
    (fin : ∀ h', Ext h h' → DepM ops (nthS Sl) Bl h' js φ [] (fun φ' acc => acc.Pairwise Apt → (∀ i d f e v u, i ∈ js → nthL Ll i = some (d, f) → dstOf ops i = some e → φ'.get e = some v → φ'.get d = some u → v = f u) → RL P N ops.toArray Q (ops.drop dl.length) φ' h')) : W P N (.region id ops.toArray true) Q φ h := by
  intro w0 a w hs hw ho
  have hl := Nat.le_of_ble_eq_true hln
  simp only [Bool.and_eq_true] at hT
  obtain ⟨⟨⟨hT, hTl⟩, hns⟩, hfr⟩ := hT
  refine wp_region_any hm (body_anyL (Bl := Bl) (Ll := Ll) (w0 := w0) (h := h) hB hT hTl hns hfr (fun c a w hq => by obtain ⟨_, ψ, _, hq⟩ := hq; exact hQp c ψ _ hq) hφ hl stable steps hLn (fun i hi => lsteps.mem hi) ?_ _ _ _ _ ?_ ?_)
  · intro listed a' w' I hall
    have hnl : ∀ j ∈ js, listed.getD j false = true := fun j hj => hall j (of_decide_eq_true (List.all_eq_true.1 hjs j hj))
    obtain ⟨ψ, acc, hψ, hpw, hG⟩ := DepM.run I js φ [] _ [] hnl (nodupB_spec hnd) (by simp) (by simp [AccOK]) ⟨I.inv.defers, I.inv.size, I.inv.base⟩ (fin w'.heap I.inv.ext)
    refine hG hpw (fun i d f e v u hi hL hd hv hu => ?_) w0 a' w' I.inv.same rfl hψ
    obtain ⟨x, hx1, hx2⟩ := I.link i d f e v (hnl i hi) hL hd (hψ.slot e v hv)
    have := hψ.slot d u hu
    rw [hx1] at this
    cases this
    exact hx2
  · simp [cnt]
  · refine ⟨⟨ho.defers, ho.size, hs.trans (Same.drawn ..), by show Ext h w.heap; rw [hw]; exact Ext.refl _, by simp, fun i hi => by
      by_cases hlt : i < ops.length <;> simp [hlt] at hi, fun i _ => by
      by_cases hlt : i < ops.length <;> simp [hlt], fun i d hi => by
      by_cases hlt : i < ops.length <;> simp [hlt] at hi, ho.slot⟩, fun i d v hi => by
      by_cases hlt : i < ops.length <;> simp [hlt] at hi, fun i j d e v u _ hi => by
      by_cases hlt : i < ops.length <;> simp [hlt] at hi, fun i d f e v hi => by
      by_cases hlt : i < ops.length <;> simp [hlt] at hi⟩

theorem opy_move {φ : Fr} {o : Oper} {x : Operand} {u : Value} (ho : o.op = .move x) (hx : φ.ev x = some u) : OpY P φ o u := by
  intro a hev w; simp [execOp, ho, hev x _ hx]
theorem opy_assign {φ : Fr} {o : Oper} {x : Operand} {u : Value} (ho : o.op = .assign x) (hx : φ.ev x = some u) : OpY P φ o u := by
  intro a hev w; simp [execOp, ho, hev x _ hx]
theorem opy_extract {φ : Fr} {o : Oper} {x : Operand} {n : Nat} {vs : List Value} {u : Value} (ho : o.op = .extract x n) (hx : φ.ev x = some (.tuple vs.toArray)) (hu : vs[n]? = some u) : OpY P φ o u := by
  intro a hev w; simp [execOp, ho, hev x _ hx, Instr.extract, hu]
end
end Go.H

/- Regions that draw their order, whose copies and loads are taken first, one after another. -/
set_option linter.unusedVariables false
namespace Go.H
open Go

/-- an operation that gives this value and turns nothing -/
def OpX (P : Program) (φ : Fr) (o : Oper) (h : Heap) (u : Value) : Prop :=
  ∀ (a : Act) (w : World), (∀ x v, φ.ev x = some v → a.eval x = v) → w.heap = h → (execOp a.eval o).run P w = .ok (.value u) w

def TK (P : Program) (N : Nat) (ops : List Oper) (Q : Exit → Fr → Heap → Prop) (S : Heap → Prop) (fuel : Nat) (listed : Array Bool) (φ : Fr) (h : Heap) : Prop :=
  ∀ w0 a w, Same w0 w → w.heap = h → Ok N φ a → S h → wpAnyH P .any ops.toArray (Lift w0 N Q) (fun w => S w.heap) fuel listed a w

section
variable {P : Program} {N : Nat} {Q : Exit → Fr → Heap → Prop} {ops : List Oper} {S : Heap → Prop} {φ : Fr} {h : Heap}

theorem W.regionT {id : Nat} (n : Nat) (S : Heap → Prop) (hn : ops.length = n) (hm : P.follows .mixedOrders = true) (hS : S h) (H : TK P N ops Q S n (Array.replicate n false) φ h) : W P N (.region id ops.toArray true) Q φ h := by
  subst hn
  intro w0 a w hs hw ho
  exact wp_region_held hm (by
    have := H w0 a { w with drawn := w.drawn + 1 } (hs.trans (Same.drawn ..)) hw ho hS
    simpa using this)

theorem Ok.put' {a : Act} (ho : Ok N φ a) {d : Nat} {u : Value} (hd : d < N) : Ok N ((d, u) :: φ) (a.put (some d) u) := by
  refine ⟨ho.defers, by simp [Act.put, ho.size], fun t v ht => ?_⟩
  simp only [Fr.get] at ht
  have hda : d < a.tmps.size := by rw [ho.size]; exact hd
  cases hb : Nat.beq d t with
  | true =>
    rw [hb] at ht
    simp only [cond_true, Option.some.injEq] at ht
    have := Nat.eq_of_beq_eq_true hb
    subst this; subst ht
    simp [Act.put, hda]
  | false =>
    rw [hb] at ht
    have hne : d ≠ t := fun e => by subst e; simp at hb
    have := ho.slot t v ht
    simpa [Act.put, Array.getElem?_setIfInBounds_ne hne] using this

/-- take number 'i' first -/
theorem TK.take (i : Nat) {o : Oper} {d : Nat} {u : Value} {fuel : Nat} {listed : Array Bool} (hi : ops[i]? = some o) (hd : o.dst = some d) (hg : o.guard = none) (hdN : d < N)
    (hc : (Region.noSelect ops.toArray && Region.free .any ops.toArray listed i && (Region.ready .any ops.toArray listed).contains i) = true)
    (hQ : ∀ c φ h, ¬ Q (.panic c) φ h) (hY : ∀ h', S h' → OpX P φ o h' u) (H : TK P N ops Q S fuel (listed.setIfInBounds i true) ((d, u) :: φ) h) : TK P N ops Q S (fuel + 1) listed φ h := by
  intro w0 a w hs hw ho hS
  simp only [Bool.and_eq_true] at hc
  have hi' : ops.toArray[i]? = some o := by simpa using hi
  have hev : ∀ x v, φ.ev x = some v → a.eval x = v := fun x v => ho.eval
  refine wpAnyH_take hi' hc.1.1 hc.1.2 hc.2 (fun c a w hq => ?_) (.inl ⟨by simp [Region.wanted, hg], fun w' hS' => hY w'.heap hS' a w' hev rfl⟩) (by rw [hw]; exact hS) ?_
  · obtain ⟨_, ψ, _, hq⟩ := hq
    exact absurd hq (hQ c ψ _)
  · rw [hd]
    exact H w0 _ w hs hw (ho.put' hdN) hS

/-- the only one that may come -/
theorem TK.step (i : Nat) {o : Oper} {fuel : Nat} {listed : Array Bool} (K : Value → Heap → Prop) (hi : ops[i]? = some o) (hd : o.dst = none) (hg : o.guard = none)
    (hr : (Region.ready .any ops.toArray listed == [i]) = true) (hV : OpV P φ o h K) (H : ∀ v h', K v h' → S h' ∧ TK P N ops Q S fuel (listed.setIfInBounds i true) φ h') : TK P N ops Q S (fuel + 1) listed φ h := by
  intro w0 a w hs hw ho hS
  have hr' : Region.ready .any ops.toArray listed = [i] := by simpa using hr
  refine wpAnyH_all hr' (by simp) (fun j hj => ?_)
  have hj : j = i := by simpa using hj
  subst hj
  have hi' : ops.toArray[j]? = some o := by simpa using hi
  unfold wpOp
  rw [hi']
  simp only
  rw [if_pos (by simp [Region.wanted, hg])]
  refine .inl (OpV.wp hV ho hw hs fun v w' hs' hk => ?_)
  rw [hd]
  obtain ⟨h1, h2⟩ := H v w'.heap hk
  exact ⟨h1, h2 w0 _ w' hs' rfl ho h1⟩

theorem TK.done {fuel : Nat} {listed : Array Bool} (hr : (Region.ready .any ops.toArray listed == []) = true) (H : Q .normal φ h) : TK P N ops Q S fuel listed φ h := by
  intro w0 a w hs hw ho hS
  exact wpAnyH_done (by simpa using hr) ⟨hs, φ, ho, by rw [hw]; exact H⟩ fuel

theorem TK.sub {fuel : Nat} {listed : Array Bool} {ψ : Fr} (hs : Fr.sub ψ φ) (H : TK P N ops Q S fuel listed ψ h) : TK P N ops Q S fuel listed φ h :=
  fun w0 a w hs' hw ho hS => H w0 a w hs' hw (ho.sub hs) hS

theorem opx_move {o : Oper} {x : Operand} {u : Value} (ho : o.op = .move x) (hx : φ.ev x = some u) : OpX P φ o h u := by
  intro a w hev hw; simp [execOp, ho, hev x _ hx]
theorem opx_assign {o : Oper} {x : Operand} {u : Value} (ho : o.op = .assign x) (hx : φ.ev x = some u) : OpX P φ o h u := by
  intro a w hev hw; simp [execOp, ho, hev x _ hx]
theorem opx_nilCheck {o : Oper} {x : Operand} {p : Addr} (ho : o.op = .nilCheck x) (hx : φ.ev x = some (.pointer (some p))) : OpX P φ o h (.pointer (some p)) := by
  intro a w hev hw; simp [execOp, ho, hev x _ hx]
theorem opx_fieldAddr {o : Oper} {s : TypeId} {x : Operand} {f n : Nat} {b k : Nat} (ho : o.op = .fieldAddr s x f) (hf : fieldOff P s f = some n) (hx : φ.ev x = some (.pointer (some ⟨b, k, none⟩))) : OpX P φ o h (.pointer (some ⟨b, k + n, none⟩)) := by
  intro a w hev hw'
  unfold fieldOff at hf
  split at hf
  · rename_i fs hu
    split at hf
    · rename_i fd hfd
      split at hf
      · rename_i i hi
        split at hf
        · cases hf
        · rename_i hz
          cases hf
          simp [execOp, ho, hev x _ hx, Instr.fieldAt, Instr.sureAddr, run_underlying hu, hfd, fieldPlace, sizeOf, typeInfo, hi, hz, add_lit]
      · cases hf
    · cases hf
  · cases hf
theorem opx_loadB {o : Oper} {t : TypeId} {x : Operand} {b k : Nat} {cs : List Value} {u : Value} (ho : o.op = .load t x) (ht : oneCellT P t = true) (hx : φ.ev x = some (.pointer (some ⟨b, k, none⟩))) (H : Bx h b cs) (hu : cs[k]? = some u) : OpX P φ o h u := by
  intro a w hev hw'
  have := run_loadVar_one (P := P) ht (w := w) (a := ⟨b, k, none⟩) (v := u) (by rw [cell_hw hw']; exact H.cell hu)
  simp [execOp, ho, hev x _ hx, Instr.loadAt, Instr.sureAddr, this]
theorem opx_index {α : Type} {K : Kd α} {e : Nat} {v : Value} {l : List α} {o : Oper} {t E : TypeId} {x i : Operand} {k : IntKind} {n : Int} {y : α} (ho : o.op = .indexAddr t x i) (ht : P.underlying t = some (.slice E)) (hs : (P.info? E).map (·.size) = some K.size) (hx : φ.ev x = some v) (hi : φ.ev i = some (.int k n)) (H : SL K e h v l) (hn : idx l n = some y) :
    ∃ u, PtI K.size u v n.toNat ∧ ∀ h', OpX P φ o h' u := by
  obtain ⟨p, c, xs, rfl, hr, hc⟩ := H
  obtain ⟨h0, h1, _⟩ := idx_some hn
  rcases hc with rfl | ⟨q, rfl, hq, hb, hcell⟩
  · simp at h1
  obtain ⟨info, hinfo, hsz⟩ := Option.map_eq_some_iff.1 hs
  have h1' : n < (l.length : Int) := by omega
  refine ⟨.pointer (some (q.add (n.toNat * K.size))), ⟨q, l.length, c, rfl, rfl⟩, fun h' a w hev hw => ?_⟩
  simp [execOp, ho, hev x _ hx, hev i _ hi, Instr.indexAt, asIntOf, run_underlying ht, h0, h1', sizeOf, typeInfo, hinfo, hsz]

theorem TK.index (i : Nat) {o : Oper} {d : Nat} {fuel : Nat} {listed : Array Bool} {α : Type} {K : Kd α} {e : Nat} {v : Value} {l : List α} {t E : TypeId} {x ix : Operand} {k : IntKind} {n : Int} {y : α} (hi : ops[i]? = some o) (hd : o.dst = some d) (hg : o.guard = none) (hdN : d < N)
    (hc : (Region.noSelect ops.toArray && Region.free .any ops.toArray listed i && (Region.ready .any ops.toArray listed).contains i) = true)
    (hQ : ∀ c φ h, ¬ Q (.panic c) φ h) (ho : o.op = .indexAddr t x ix) (ht : P.underlying t = some (.slice E)) (hs : (P.info? E).map (·.size) = some K.size) (hx : φ.ev x = some v) (hix : φ.ev ix = some (.int k n)) (Hl : SL K e h v l) (hn : idx l n = some y)
    (H : ∀ u, PtI K.size u v n.toNat → TK P N ops Q S fuel (listed.setIfInBounds i true) ((d, u) :: φ) h) : TK P N ops Q S (fuel + 1) listed φ h := by
  obtain ⟨u, hu, hY⟩ := opx_index ho ht hs hx hix Hl hn
  exact TK.take i hi hd hg hdN hc hQ (fun h' _ => hY h') (H u hu)
end
end Go.H

/- Elements of several cells: read, and written in part. -/
set_option linter.unusedVariables false
namespace Go.H
open Go

theorem RelL.setPart {α : Type} {K : Kd α} {z z' : α} {off : Nat} {u : Value} (hz : ∀ us, K.rel z us → off < us.length ∧ K.rel z' (us.set off u)) :
    ∀ {l : List α} {xs : List Value} (_ : RelL K l xs) {i : Nat}, l[i]? = some z → RelL K (l.set i z') (xs.set (i * K.size + off) u)
  | [], _, _, _, hi => by simp at hi
  | y :: l, _, ⟨us, r, e, h1, h2⟩, 0, hi => by
    simp only [List.getElem?_cons_zero, Option.some.injEq] at hi
    subst hi
    obtain ⟨g1, g2⟩ := hz us h1
    refine ⟨us.set off u, r, ?_, g2, h2⟩
    rw [e, Nat.zero_mul, Nat.zero_add, List.set_append_left _ _ g1]
  | y :: l, _, ⟨us, r, e, h1, h2⟩, i + 1, hi => by
    have hv := K.len y us h1
    refine ⟨us, r.set (i * K.size + off) u, ?_, h1, h2.setPart hz (by simpa using hi)⟩
    rw [e, List.set_append_right _ _ (by rw [hv, Nat.add_mul, Nat.one_mul]; omega), hv, show (i + 1) * K.size + off - K.size = i * K.size + off from by rw [Nat.add_mul, Nat.one_mul]; omega]

/-- a pointer to a part of an element -/
def PtF (sz off : Nat) (u v : Value) (i : Nat) : Prop := ∃ p n c, v = .slice (some p) n c ∧ u = .pointer (some (p.add (i * sz + off)))

section
variable {P : Program} {φ : Fr} {h : Heap} {o : Oper} {α : Type} {K : Kd α} {e : Nat} {v : Value} {l : List α}

theorem SL.spot (H : SL K e h v l) {p : Addr} {n c : Nat} (hv : v = .slice (some p) n c) (hl : l ≠ []) : p.spot = none ∧ n = l.length := by
  obtain ⟨q, c', xs, rfl, hr, hc⟩ := H
  simp only [Value.slice.injEq] at hv
  obtain ⟨rfl, rfl, rfl⟩ := hv
  rcases hc with rfl | ⟨p', hp, hsp, _, _⟩
  · exact absurd rfl hl
  · cases hp
    exact ⟨hsp, rfl⟩

theorem opv_fieldE {s : TypeId} {x : Operand} {f n : Nat} {u : Value} {i : Nat} (ho : o.op = .fieldAddr s x f) (hf : fieldOff P s f = some n) (hx : φ.ev x = some u) (hp : PtI K.size u v i) (H : SL K e h v l) (hl : i < l.length) : OpV P φ o h (fun u' h' => PtF K.size n u' v i ∧ h = h') := by
  obtain ⟨p, m, c, hv, rfl⟩ := hp
  obtain ⟨hsp, _⟩ := H.spot hv (by intro h0; subst h0; simp at hl)
  intro a w hev hw'
  unfold fieldOff at hf
  split at hf
  · rename_i fs hu
    split at hf
    · rename_i fd hfd
      split at hf
      · rename_i ti hi
        split at hf
        · cases hf
        · rename_i hz
          cases hf
          refine .inl ⟨.pointer (some ((p.add (i * K.size)).add fd.offset)), w, ?_, Same.refl w, ⟨p, m, c, hv, by rw [add_add _ _ _ hsp]⟩, hw'.symm⟩
          simp [execOp, ho, hev x _ hx, Instr.fieldAt, Instr.sureAddr, run_underlying hu, hfd, fieldPlace, sizeOf, typeInfo, hi, hz]
      · cases hf
    · cases hf
  · cases hf

theorem opv_loadPart {t : TypeId} {x : Operand} {u r : Value} {i off : Nat} {y : α} (ho : o.op = .load t x) (ht : oneCellT P t = true) (hx : φ.ev x = some u) (hp : PtF K.size off u v i) (H : SL K e h v l) (hy : l[i]? = some y) (hr : ∀ us, K.rel y us → us[off]? = some r) : OpV P φ o h (Det r h) := by
  obtain ⟨q, c, xs, rfl, hrr, hc⟩ := H
  obtain ⟨p, n, c', hv, rfl⟩ := hp
  simp only [Value.slice.injEq] at hv
  obtain ⟨rfl, rfl, rfl⟩ := hv
  rcases hc with rfl | ⟨p', hp, hsp, hb, hcell⟩
  · simp at hy
  cases hp
  obtain ⟨us, hrel, hus⟩ := hrr.2.get hy
  exact opv_load ho ht hx (hcell _ _ (hus off r (hr us hrel)))

theorem opv_loadWhole {t : TypeId} {x : Operand} {u : Value} {us : List Value} {i : Nat} {y : α} (ho : o.op = .load t x) (ht : aggT P t = true) (hn : (P.info? t).map (·.size) = some K.size) (hx : φ.ev x = some u) (hp : PtI K.size u v i) (H : SL K e h v l) (hy : l[i]? = some y) (hr : ∀ vs, K.rel y vs → vs = us) : OpV P φ o h (Det (.agg us.toArray) h) := by
  obtain ⟨q, c, xs, rfl, hrr, hc⟩ := H
  obtain ⟨p, n, c', hv, rfl⟩ := hp
  simp only [Value.slice.injEq] at hv
  obtain ⟨rfl, rfl, rfl⟩ := hv
  rcases hc with rfl | ⟨p', hp, hsp, hb, hcell⟩
  · simp at hy
  cases hp
  obtain ⟨vs, hrel, hus⟩ := hrr.2.get hy
  obtain rfl := hr vs hrel
  obtain ⟨ti, hi, hsz⟩ := Option.map_eq_some_iff.1 hn
  intro a w hev hw'
  refine .inl ⟨_, w, ?_, Same.refl w, rfl, hw'.symm⟩
  have hcells : (loadCells (p.add (i * K.size)) ti.size).run P w = .ok vs.toArray w := by
    have := run_loadCells_list (P := P) (w := w) (p.add (i * K.size)) vs (fun j r hj => by
      rw [add_add _ _ _ hsp, cell_hw hw']
      exact hcell _ _ (hus j r hj))
    rw [K.len y vs hrel] at this
    rw [hsz]
    exact this
  have hlv : (loadVar t (p.add (i * K.size))).run P w = .ok (.agg vs.toArray) w := by
    simp [loadVar, run_isAgg ht, sizeOf, typeInfo, hi, hcells]
  simp [execOp, ho, hev x _ hx, Instr.loadAt, Instr.sureAddr, hlv]

theorem opv_storePart {t E : TypeId} {lo : Nat} {x y : Operand} {p u : Value} {i off : Nat} {z z' : α} (ho : o.op = .store t x y) (ht : (P.info? t).map (·.size) = some 1) (hx : φ.ev x = some p) (hp : PtF K.size off p v i) (hy : φ.ev y = some u) (hu1 : u.oneCell' = true) (hz : l[i]? = some z) (hoff : off < K.size) (hz' : ∀ us, K.rel z us → off < us.length ∧ K.rel z' (us.set off u)) (H : Own K E lo h v l) :
    OpV P φ o h (fun r h' => r = undef ∧ Own K E lo h' v (l.set i z') ∧ Chg (fun b => v.ownBlock = some b) h h' ∧ h'.size = h.size) := by
  intro a w hev hw'
  subst hw'
  obtain ⟨xs, ⟨hl, h2⟩, hr⟩ := H
  have hi := (List.getElem?_eq_some_iff.1 hz).1
  rcases h2 with ⟨rfl, hn⟩ | ⟨g, cap, cur, rfl, hb, hg, hnc, hcm, hcs, htk⟩
  · obtain ⟨q, n, c, hv, _⟩ := hp
    simp at hv
  obtain ⟨q, n, c, hv, rfl⟩ := hp
  simp only [Value.slice.injEq, Option.some.injEq] at hv
  obtain ⟨rfl, rfl, rfl⟩ := hv
  have hc : u.cells = #[u] := by cases u <;> first | rfl | cases hu1
  obtain ⟨info, hinf, hsz⟩ := Option.map_eq_some_iff.1 ht
  have hg' : w.heap[g]? = some (.cells cur E (0, 0)) := hg
  have hmul : (i + 1) * K.size ≤ l.length * K.size := Nat.mul_le_mul_right _ hi
  rw [Nat.add_mul, Nat.one_mul] at hmul
  have hcap : l.length * K.size ≤ cap * K.size := Nat.mul_le_mul_right _ hnc
  obtain ⟨j, hj⟩ : ∃ j, i * K.size + off = j := ⟨_, rfl⟩
  have hjcur : j < cur.size := by rw [hcs]; omega
  have hjx : j < xs.length := by rw [hl]; omega
  have hrun := run_storeCells_at P g j E [u] 0 cur w hg' (by simp; omega) (by simpa using hu1)
  rw [hj] at hx
  refine .inr (.inl ⟨w.setRow g (cur.toList.take j ++ [u] ++ cur.toList.drop (j + 1)).toArray, ?_, ⟨rfl, rfl, rfl⟩, rfl, ?_, ?_, by simp [World.setRow]⟩)
  · simp [execOp, ho, hev x _ hx, hev y _ hy, Instr.storeAt, Instr.sureAddr, storeVar, hc, sizeOf, typeInfo, hinf, hsz, add_lit] at hrun ⊢
    simp [hrun]
  · have e0 : (cur.toList.take j ++ [u] ++ cur.toList.drop (j + 1)) = cur.toList.set j u := by
      rw [List.set_eq_take_append_cons_drop, if_pos (by simpa using hjcur)]; simp
    refine ⟨xs.set j u, ⟨by rw [List.length_set, List.length_set]; exact hl, .inr ⟨g, cap, _, by rw [List.length_set], hb, setRow_heap w g _ _ E _ hg', by rw [List.length_set]; exact hnc, hcm, ?_, ?_⟩⟩, ?_⟩
    · rw [e0]; simpa using hcs
    · rw [e0, List.length_set, ← htk, List.take_set]
    · rw [← hj]; exact hr.setPart hz' hz
  · exact (setRow_chg ..).mono (by rintro k _ rfl; rfl)

/-- a part of an element written: the list -/
theorem opS_storePart {t E : TypeId} {x y : Operand} {p u : Value} {n : Int} {off : Nat} {z z' : α} {l' : List α} (ho : o.op = .store t x y) (ht : (P.info? t).map (·.size) = some 1) (hx : φ.ev x = some p) (hp : PtF K.size off p v n.toNat) (hy : φ.ev y = some u) (hu1 : u.oneCell' = true) (hz : idx l n = some z) (hoff : Nat.blt off K.size = true) (hz' : ∀ us, K.rel z us → off < us.length ∧ K.rel z' (us.set off u)) (hs : setF l n z' = some l') (H : (ownO K E v l).holds h) :
    OpV P φ o h (fun r h' => r = undef ∧ Made h [ownO K E v l] (fun _ => [ownO K E v l']) undef h') := by
  unfold setF at hs
  split at hs
  case isFalse => cases hs
  rename_i hi
  cases hs
  have hoff : off < K.size := Nat.le_of_ble_eq_true hoff
  exact (opv_storePart ho ht hx hp hy hu1 (idx_some hz).2.2 hoff hz' H).mono fun r h' ⟨h2, h3, h4, h5⟩ =>
    ⟨h2, Mod.of_chg h4, Sep.one h3 (fun b hb => ⟨(h3.bounds b hb).2, .inr (by simp [ownO]; exact hb.symm)⟩)⟩
end

theorem kII_set0 {k : IntKind} {z : Int × Int} {m : Int} : ∀ us, (kII k).rel z us → 0 < us.length ∧ (kII k).rel (m, z.2) (us.set 0 (.int k m)) := by
  rintro us rfl
  exact ⟨by simp, rfl⟩
theorem kII_set1 {k : IntKind} {z : Int × Int} {m : Int} : ∀ us, (kII k).rel z us → 1 < us.length ∧ (kII k).rel (z.1, m) (us.set 1 (.int k m)) := by
  rintro us rfl
  exact ⟨by simp, rfl⟩
theorem kII_get0 {k : IntKind} {z : Int × Int} : ∀ us, (kII k).rel z us → us[0]? = some (.int k z.1) := by rintro us rfl; rfl
theorem kII_get1 {k : IntKind} {z : Int × Int} : ∀ us, (kII k).rel z us → us[1]? = some (.int k z.2) := by rintro us rfl; rfl
theorem kII_all {k : IntKind} {z : Int × Int} : ∀ us, (kII k).rel z us → us = [.int k z.1, .int k z.2] := by rintro us rfl; rfl
end Go.H

/- A 128-bit complex number made a 64-bit one. -/
set_option linter.unusedVariables false
namespace Go.H
open Go
section
variable {P : Program} {φ : Fr} {h : Heap} {o : Oper}
theorem opv_cnarrow {src dst : TypeId} {x : Operand} {u : Value} {m : Option Nat × Option Nat} {r1 r2 : Option Nat} (ho : o.op = .convert src dst x) (hs : (P.underlying src).isSome = true) (hd : P.underlying dst = some (.complex .f32)) (hx : φ.ev x = some u) (hu : IsC .f64 u m) (e1 : fcv .f64 .f32 m.1 = some r1) (e2 : fcv .f64 .f32 m.2 = some r2) : OpV P φ o h (Cpx .f32 (r1, r2) h) := by
  intro a w hev hw
  obtain ⟨b, c, rfl, hb, hc, hb2, hc2⟩ := hu
  obtain ⟨du, hs'⟩ := Option.isSome_iff_exists.1 hs
  obtain ⟨q1, w1, g1, s1, t1, l1, c1⟩ := f2f_run (P := P) (s := .f64) (j := .f32) (by decide) (b := b) (by rw [hb2]; exact e1) w
  obtain ⟨q2, w2, g2, s2, t2, l2, c2⟩ := f2f_run (P := P) (s := .f64) (j := .f32) (by decide) (b := c) (by rw [hc2]; exact e2) w1
  refine .inl ⟨.complex .f32 q1 q2, w2, ?_, s1.trans s2, ⟨q1, q2, rfl, l1, l2, c1, c2⟩, by rw [t2, t1]; exact hw.symm⟩
  cases du <;> simp [execOp, ho, hev x _ hx, convert, run_underlying hs', run_underlying hd, Conv.complexToComplex, g1, g2]
end
end Go.H

/- Maps from int64 to bool. -/
set_option linter.unusedVariables false
namespace Go.H
open Go

/-- block r holds a map with these entries, in this order -/
def MapH (h : Heap) (r : Nat) (l : List (Int × Bool)) : Prop := ∃ es clock, h[r]? = some (.map es clock) ∧ es.toList.map (fun e => (e.key, e.val)) = l.map (fun p => (Value.int .i64 p.1, Value.bool p.2))

def mapO (r : Nat) (l : List (Int × Bool)) : Thing where
  blk := some r
  holds h := MapH h r l
  stable h h' hs hb H := by
    obtain ⟨es, c, h1, h2⟩ := H
    exact ⟨es, c, by rw [hb r rfl]; exact h1, h2⟩

def mapGet (l : List (Int × Bool)) (k : Int) : Bool := match l.find? (fun p => p.1 == k) with
  | some p => p.2
  | none => false

theorem MapH.lt {h : Heap} {r : Nat} {l : List (Int × Bool)} (H : MapH h r l) : r < h.size := by
  obtain ⟨es, c, h1, _⟩ := H
  exact (Array.getElem?_eq_some_iff.1 h1).1

theorem findNow_pairs (k : Int) : ∀ (es : List MapEntry) (l : List (Int × Bool)) (i : Nat), es.map (fun e => (e.key, e.val)) = l.map (fun p => (Value.int .i64 p.1, Value.bool p.2)) →
    (Instr.findNow (.int .i64) (.int .i64 k) es i = some none ∧ l.find? (fun p => p.1 == k) = none) ∨ ∃ j p, Instr.findNow (.int .i64) (.int .i64 k) es i = some (some (j, .bool p.2)) ∧ l.find? (fun p => p.1 == k) = some p
  | [], [], _, _ => .inl ⟨rfl, rfl⟩
  | [], _ :: _, _, h => by simp at h
  | _ :: _, [], _, h => by simp at h
  | e :: es, p :: l, i, h => by
    simp only [List.map_cons, List.cons.injEq, Prod.mk.injEq] at h
    obtain ⟨⟨h1, h2⟩, h3⟩ := h
    unfold Instr.findNow
    rw [h1]
    have hs : Instr.sameNow (.int .i64) (.int .i64 k) (.int .i64 p.1) = some (k == p.1) := by simp [Instr.sameNow]
    rw [hs]
    by_cases hk : k = p.1
    · subst hk
      refine .inr ⟨i, p, by simp [h2], by simp⟩
    · have e1 : (k == p.1) = false := by simpa using hk
      have e2 : (p.1 == k) = false := by simpa using fun h => hk h.symm
      rw [e1, List.find?_cons, e2]
      exact findNow_pairs k es l (i + 1) h3

section
variable {P : Program} {φ : Fr} {h : Heap} {o : Oper}

theorem opS_makeMap {t : TypeId} (ho : o.op = .makeMap t none) : OpV P φ o h (fun u h' => ∃ r, u = .map (some r) ∧ Made h [] (fun _ => [mapO r []]) undef h') := by
  intro a w hev hw'
  subst hw'
  refine .inl ⟨.map (some w.heap.size), w.alloc (.map #[] 0), ?_, ⟨rfl, rfl, rfl⟩, w.heap.size, rfl, (ext_push _ _).mod _, ?_⟩
  · simp [execOp, ho, Instr.makeMap]
  · refine Sep.one (o := mapO w.heap.size []) ⟨#[], 0, (Go.MapKept.heap_alloc w _).1, rfl⟩ (fun k hk => ?_)
    simp only [mapO, Option.some.injEq] at hk
    subst hk
    exact ⟨by show w.heap.size < (w.heap.push _).size; simp, .inl (Nat.le_refl _)⟩

theorem opv_lookup {t kt et : TypeId} {x ix : Operand} {r : Nat} {l : List (Int × Bool)} {n : Int} (ho : o.op = .lookup t x ix false) (ht : P.underlying t = some (.map kt et)) (hk : P.underlying kt = some (.int .i64)) (hz : (P.info? et).bind (·.zero) = some (.bool false)) (hx : φ.ev x = some (.map (some r))) (hi : φ.ev ix = some (.int .i64 n)) (H : MapH h r l) : OpV P φ o h (Det (.bool (mapGet l n)) h) := by
  intro a w hev hw'
  obtain ⟨es, c, h1, h2⟩ := H
  rw [← hw'] at h1
  obtain ⟨ti, hti, htz⟩ := Option.bind_eq_some_iff.1 hz
  refine .inl ⟨_, w, ?_, Same.refl w, rfl, hw'.symm⟩
  have hg : (getObj r).run P w = .ok (.map es c) w := Go.MapKept.run_getObj_map (P := P) h1
  have hc := Go.MapKept.run_checkKey (P := P) (w := w) (k := .int .i64 n) hk rfl es.isEmpty 9999
  rcases findNow_pairs n es.toList l 0 h2 with ⟨g1, g2⟩ | ⟨j, p, g1, g2⟩
  · have hf := Go.MapKept.run_findKey (P := P) (w := w) hk g1
    simp [execOp, ho, hev x _ hx, hev ix _ hi, Instr.lookup, run_underlying ht, hg, hc, hf, zeroValue, typeInfo, hti, htz, mapGet, g2]
  · have hf := Go.MapKept.run_findKey (P := P) (w := w) hk g1
    simp [execOp, ho, hev x _ hx, hev ix _ hi, Instr.lookup, run_underlying ht, hg, hc, hf, mapGet, g2]

theorem opS_mapUpdate {t kt et : TypeId} {m k x : Operand} {r : Nat} {l : List (Int × Bool)} {n : Int} {b : Bool} (ho : o.op = .mapUpdate t m k x) (ht : P.underlying t = some (.map kt et)) (hk : P.underlying kt = some (.int .i64)) (hm : φ.ev m = some (.map (some r))) (hn : φ.ev k = some (.int .i64 n)) (hx : φ.ev x = some (.bool b)) (hf : l.all (fun p => p.1 != n) = true) (H : (mapO r l).holds h) :
    OpV P φ o h (fun u h' => u = undef ∧ Made h [mapO r l] (fun _ => [mapO r (l ++ [(n, b)])]) undef h') := by
  intro a w hev hw'
  subst hw'
  obtain ⟨es, c, h1, h2⟩ := H
  have hlt : r < w.heap.size := (Array.getElem?_eq_some_iff.1 h1).1
  have hg : (getObj r).run P w = .ok (.map es c) w := Go.MapKept.run_getObj_map (P := P) h1
  have hc := Go.MapKept.run_checkKey (P := P) (w := w) (k := .int .i64 n) hk rfl false 9999
  have hno : l.find? (fun p => p.1 == n) = none := by
    rw [List.find?_eq_none]
    intro p hp
    have := List.all_eq_true.1 hf p hp
    simpa using this
  have g1 : Instr.findNow (.int .i64) (.int .i64 n) es.toList 0 = some none := by
    rcases findNow_pairs n es.toList l 0 h2 with ⟨g1, _⟩ | ⟨j, p, _, g2⟩
    · exact g1
    · rw [hno] at g2; cases g2
  have hfk := Go.MapKept.run_findKey (P := P) (w := w) hk g1
  have hset := Go.MapKept.run_setObj_map (P := P) (.map (es.push { key := .int .i64 n, val := .bool b, born := c }) (c + 1)) h1
  obtain ⟨s1, s2⟩ := Go.MapKept.heap_set (o' := .map (es.push { key := .int .i64 n, val := .bool b, born := c }) (c + 1)) h1
  refine .inr (.inl ⟨{ w with heap := w.heap.setIfInBounds r (.map (es.push { key := .int .i64 n, val := .bool b, born := c }) (c + 1)) }, ?_, ⟨rfl, rfl, rfl⟩, rfl, ⟨by simp, fun q hq hn' => s2 q (fun e => hn' (by simp [mapO, e]))⟩, ?_⟩)
  · simp [execOp, ho, hev m _ hm, hev k _ hn, hev x _ hx, Instr.mapUpdate, run_underlying ht, hg, hc, hfk, hset]
  · refine Sep.one (o := mapO r (l ++ [(n, b)])) ⟨_, _, s1, by simp [h2]⟩ (fun q hq => ?_)
    simp only [mapO, Option.some.injEq] at hq
    subst hq
    exact ⟨by show r < (w.heap.setIfInBounds r _).size; simpa using hlt, .inr (by simp [mapO])⟩
end
end Go.H

/- Shorter steps of the heap; arithmetic and things made among operations that are taken first; values of array types. -/
set_option linter.unusedVariables false
namespace Go.H
open Go

theorem Sep.turn {B : List (Option Nat)} {h0 h h' : Heap} {A L A' : List Thing} (X : Mod B h0 h) (S : Sep B h0.size h (A ++ L)) (M : Mod (A.map (·.blk)) h h') (T : Sep (A.map (·.blk)) h.size h' A') : Mod B h0 h' ∧ Sep B h0.size h' (A' ++ L) :=
  ⟨Mod.step X S M, Sep.step S X.size M T⟩
theorem Sep.turn0 {B : List (Option Nat)} {h0 h h' : Heap} {L A' : List Thing} (X : Mod B h0 h) (S : Sep B h0.size h L) (M : Mod [] h h') (T : Sep [] h.size h' A') : Mod B h0 h' ∧ Sep B h0.size h' (A' ++ L) :=
  ⟨Mod.step (A := []) X S M, Sep.step (A := []) S X.size M T⟩

section
variable {P : Program} {N : Nat} {φ : Fr} {h : Heap} {o : Oper}

/-- an operation whose guard says yes, and that gives this value -/
theorem RL.yesD {ops : Array Oper} {Q : Exit → Fr → Heap → Prop} {d j t : Nat} {b want : Bool} {op : Op} {ty : TypeId} {ps : String} {af : Array Edge} {l : List Oper} {u : Value}
    (hj : (ops[j]?).bind (·.dst) = some t) (hb : φ.get t = some (.bool b)) (hw : b = want) (hd : d < N) (H : OpV P φ { dst := some d, op := op, type := ty, pos := ps, after := af, guard := some (j, want) } h (Det u h))
    (hn : RL P N ops Q l ((d, u) :: φ) h) :
    RL P N ops Q ({ dst := some d, op := op, type := ty, pos := ps, after := af, guard := some (j, want) } :: l) φ h :=
  RL.yes _ hj hb hw hd H fun _ _ hv => hv.1 ▸ hv.2 ▸ hn
theorem RL.noT {ops : Array Oper} {Q : Exit → Fr → Heap → Prop} {d j t : Nat} {b : Bool} {op : Op} {ty : TypeId} {ps : String} {af : Array Edge} {l : List Oper}
    (hj : (ops[j]?).bind (·.dst) = some t) (hb : φ.get t = some (.bool b)) (hw : b = true) (hd : d < N) (hn : RL P N ops Q l ((d, undef) :: φ) h) :
    RL P N ops Q ({ dst := some d, op := op, type := ty, pos := ps, after := af, guard := some (j, false) } :: l) φ h := RL.no hj hb hw hd hn
theorem RL.noF {ops : Array Oper} {Q : Exit → Fr → Heap → Prop} {d j t : Nat} {b : Bool} {op : Op} {ty : TypeId} {ps : String} {af : Array Edge} {l : List Oper}
    (hj : (ops[j]?).bind (·.dst) = some t) (hb : φ.get t = some (.bool b)) (hw : b = false) (hd : d < N) (hn : RL P N ops Q l ((d, undef) :: φ) h) :
    RL P N ops Q ({ dst := some d, op := op, type := ty, pos := ps, after := af, guard := some (j, true) } :: l) φ h := RL.no hj hb hw hd hn

theorem opx_int {op : BinOp} {t t' : TypeId} {x y : Operand} {k : IntKind} {m n : Int} (ho : o.op = .binOp op t x y t') (hop : op = .add ∨ op = .sub ∨ op = .mul) (hx : φ.ev x = some (.int k m)) (hy : φ.ev y = some (.int k n)) :
    OpX P φ o h (.int k (k.wrap (arith op m n))) := by
  intro a w hev hw
  rcases hop with rfl | rfl | rfl <;> simp [execOp, ho, hev x _ hx, hev y _ hy, eqGuard, binOp, Op.intArith, arith]
theorem opx_add {t t' : TypeId} {x y : Operand} {k : IntKind} {m n : Int} (ho : o.op = .binOp .add t x y t') (hx : φ.ev x = some (.int k m)) (hy : φ.ev y = some (.int k n)) : OpX P φ o h (.int k (k.wrap (m + n))) := opx_int ho (.inl rfl) hx hy
theorem opx_sub {t t' : TypeId} {x y : Operand} {k : IntKind} {m n : Int} (ho : o.op = .binOp .sub t x y t') (hx : φ.ev x = some (.int k m)) (hy : φ.ev y = some (.int k n)) : OpX P φ o h (.int k (k.wrap (m - n))) := opx_int ho (.inr (.inl rfl)) hx hy
theorem opx_mul {t t' : TypeId} {x y : Operand} {k : IntKind} {m n : Int} (ho : o.op = .binOp .mul t x y t') (hx : φ.ev x = some (.int k m)) (hy : φ.ev y = some (.int k n)) : OpX P φ o h (.int k (k.wrap (m * n))) := opx_int ho (.inr (.inr rfl)) hx hy
theorem opx_quo {t t' : TypeId} {x y : Operand} {k : IntKind} {m n : Int} (ho : o.op = .binOp .quo t x y t') (hn : n ≠ 0) (hx : φ.ev x = some (.int k m)) (hy : φ.ev y = some (.int k n)) : OpX P φ o h (.int k (k.wrap (m.tdiv n))) := by
  intro a w hev hw
  simp [execOp, ho, hev x _ hx, hev y _ hy, eqGuard, binOp, Op.intDiv, hn]
theorem opx_rem {t t' : TypeId} {x y : Operand} {k : IntKind} {m n : Int} (ho : o.op = .binOp .rem t x y t') (hn : n ≠ 0) (hx : φ.ev x = some (.int k m)) (hy : φ.ev y = some (.int k n)) : OpX P φ o h (.int k (m.tmod n)) := by
  intro a w hev hw
  simp [execOp, ho, hev x _ hx, hev y _ hy, eqGuard, binOp, Op.intDiv, hn]
theorem opx_icmp {op : BinOp} {t t' : TypeId} {x y : Operand} {k : IntKind} {m n : Int} (ho : o.op = .binOp op t x y t') (hop : (match op with | .eql | .neq | .lss | .leq | .gtr | .geq => true | _ => false) = true) (hx : φ.ev x = some (.int k m)) (hy : φ.ev y = some (.int k n)) :
    OpX P φ o h (.bool (icmp op m n)) := by
  intro a w hev hw
  cases op <;> simp at hop <;> simp [execOp, ho, hev x _ hx, hev y _ hy, eqGuard, binOp, Op.intCmp, icmp]

/-- the only one that may come, and that gives a value -/
theorem TK.stepD {Q : Exit → Fr → Heap → Prop} {ops : List Oper} {S : Heap → Prop} (i : Nat) {o : Oper} {d : Nat} {fuel : Nat} {listed : Array Bool} (K : Value → Heap → Prop) (hi : ops[i]? = some o) (hd : o.dst = some d) (hg : o.guard = none) (hdN : d < N)
    (hr : (Region.ready .any ops.toArray listed == [i]) = true) (hV : OpV P φ o h K) (H : ∀ v h', K v h' → S h' ∧ TK P N ops Q S fuel (listed.setIfInBounds i true) ((d, v) :: φ) h') : TK P N ops Q S (fuel + 1) listed φ h := by
  intro w0 a w hs hw ho hS
  have hr' : Region.ready .any ops.toArray listed = [i] := by simpa using hr
  refine wpAnyH_all hr' (by simp) (fun j hj => ?_)
  have hj : j = i := by simpa using hj
  subst hj
  have hi' : ops.toArray[j]? = some o := by simpa using hi
  unfold wpOp
  rw [hi']
  simp only
  rw [if_pos (by simp [Region.wanted, hg])]
  refine .inl (OpV.wp hV ho hw hs fun v w' hs' hk => ?_)
  rw [hd]
  obtain ⟨h1, h2⟩ := H v w'.heap hk
  exact ⟨h1, h2 w0 _ w' hs' rfl (ho.put' hdN) h1⟩

/-- the zero's cells of an array, and where its elements lie -/
def bldArr (P : Program) (t : TypeId) : Option (List Value × List (Nat × Nat)) :=
  match P.info? t, P.underlying t with
  | some it, some (.array n e) =>
    match it.zero, P.info? e with
    | some z, some ie => some (z.cells.toList, (List.range n).map fun i => (i * ie.size, ie.size))
    | _, _ => none
  | _, _ => none

theorem fill_total {f g : Nat → Option (Nat × Nat)} (hfg : ∀ i q, f i = some q → g i = some q) : ∀ {vs : List (Nat × Value)} {cs r : Array Value}, Instr.fill f cs vs = some r → Instr.fill g cs vs = some r
  | [], _, _, h => h
  | (i, v) :: vs, cs, r, h => by
    unfold Instr.fill at h ⊢
    cases hf : f i with
    | none => rw [hf] at h; cases h
    | some q =>
      rw [hf] at h
      rw [hfg i q hf]
      simp only at h ⊢
      split at h
      · cases h
      · rename_i hn
        rw [if_neg hn]
        exact fill_total hfg h

theorem opv_buildArr {t : TypeId} {xs : List (Nat × Operand)} {zs cs : List Value} {places : List (Nat × Nat)} (r : List (Nat × List Value)) (vs : List (Nat × Value)) (ho : o.op = .build t xs.toArray) (hb : bldArr P t = some (zs, places)) (hp : partsOK φ xs r vs) (hf : fillL places zs r = some cs) : OpV P φ o h (Det (.agg cs.toArray) h) := by
  intro a w hev hw
  refine .inl ⟨_, w, ?_, Same.refl w, rfl, hw.symm⟩
  have hbt : P.built t vs = some cs.toArray := by
    unfold bldArr at hb
    unfold Program.built
    split at hb
    · rename_i it n e h1 h2
      split at hb
      · rename_i z ie h3 h4
        cases hb
        simp only [h1, h2, h3, h4]
        have := fill_of hp hf
        refine fill_total ?_ (by simpa using this)
        intro i q hq
        have hq : ((List.range n).map fun i => (i * ie.size, ie.size))[i]? = some q := by simpa using hq
        rw [List.getElem?_map] at hq
        by_cases hi : i < n
        · simp only [List.getElem?_range hi, Option.map_some] at hq
          exact hq
        · rw [List.getElem?_eq_none (by simpa using hi)] at hq; cases hq
      · cases hb
    · cases hb
  have hm := partsOK.map (a := a) hev hp
  have hm' : (xs.toArray.map fun (x : Nat × Operand) => (x.1, a.eval x.2)).toList = vs := by simp [hm]
  have := run_build w t (xs.toArray.map fun (x : Nat × Operand) => (x.1, a.eval x.2)) cs.toArray (by rw [hm']; exact hbt)
  simp [execOp, ho] at this ⊢
  simp [this]

def arrLen (P : Program) (t : TypeId) : Option (Nat × TypeId) := match P.underlying t with
  | some (.array n e) => some (n, e)
  | _ => none
theorem arrLen_spec {t : TypeId} {n : Nat} {e : TypeId} (h : arrLen P t = some (n, e)) : P.underlying t = some (.array n e) := by
  unfold arrLen at h
  split at h
  · rename_i h2; cases h; exact h2
  · cases h

theorem flat2_get (l : List (Int × Int)) (j : Nat) {y : Int × Int} (hy : l[j]? = some y) : ((l.flatMap (fun p => [Value.int .i64 p.1, Value.int .i64 p.2])).drop (j * 2)).take 2 = [Value.int .i64 y.1, Value.int .i64 y.2] := by
  induction l generalizing j with
  | nil => cases hy
  | cons p l ih =>
    cases j with
    | zero => simp at hy; subst hy; simp
    | succ j =>
      have := ih j (by simpa using hy)
      rw [show (j + 1) * 2 = j * 2 + 2 by omega]
      simpa using this

/-- an element of an array of pairs -/
theorem opv_indexII {L : List (Int × Int)} {t E : TypeId} {len : Nat} {x i : Operand} {k : IntKind} {n : Int} {y : Int × Int} {cs : List Value} (ho : o.op = .index t x i) (ht : arrLen P t = some (len, E)) (hE : aggT P E = true) (hs : (P.info? E).map (·.size) = some 2) (hx : φ.ev x = some (.agg cs.toArray)) (hc : cs = L.flatMap (fun p => [Value.int .i64 p.1, Value.int .i64 p.2])) (hl : L.length = len) (hi : φ.ev i = some (.int k n)) (hn : idx L n = some y) : OpV P φ o h (Det (.agg [Value.int .i64 y.1, Value.int .i64 y.2].toArray) h) := by
  intro a w hev hw
  refine .inl ⟨_, w, ?_, Same.refl w, rfl, hw.symm⟩
  obtain ⟨h0, h1, h2⟩ := idx_some hn
  obtain ⟨info, hinfo, hsz⟩ := Option.map_eq_some_iff.1 hs
  have hf := flat2_get L n.toNat h2
  have hu := arrLen_spec ht
  subst hc
  have h1' : n < (len : Int) := by omega
  have he : ((L.flatMap (fun p => [Value.int .i64 p.1, Value.int .i64 p.2])).toArray).extract (n.toNat * 2) (n.toNat * 2 + 2) = [Value.int .i64 y.1, Value.int .i64 y.2].toArray := by
    rw [← hf, List.extract_toArray, List.extract_eq_take_drop]
    congr 2
    omega
  simp only [execOp, ho, hev x _ hx, hev i _ hi]
  simp [Instr.index, asIntOf, run_underlying hu, h0, h1', sizeOf, typeInfo, hinfo, hsz, part, run_isAgg hE]
  simpa using he

/-- the address of an array's element -/
theorem opv_indexArr {t E : TypeId} {len sz : Nat} {x i : Operand} {k : IntKind} {n : Nat} {b off : Nat} (ho : o.op = .indexAddr t x i) (ht : arrLen P t = some (len, E)) (hs : (P.info? E).map (·.size) = some sz) (hx : φ.ev x = some (.pointer (some ⟨b, off, none⟩))) (hi : φ.ev i = some (.int k (n : Int))) (hn : Nat.blt n len = true) : OpV P φ o h (Det (.pointer (some ⟨b, off + n * sz, none⟩)) h) := by
  intro a w hev hw
  refine .inl ⟨_, w, ?_, Same.refl w, rfl, hw.symm⟩
  obtain ⟨info, hinfo, hsz⟩ := Option.map_eq_some_iff.1 hs
  have hu := arrLen_spec ht
  have hlt : n < len := Nat.le_of_ble_eq_true hn
  have h1 : (0 : Int) ≤ (n : Int) ∧ (n : Int) < (len : Int) := ⟨by omega, by omega⟩
  simp [execOp, ho, hev x _ hx, hev i _ hi, Instr.indexAt, Instr.sureAddr, asIntOf, run_underlying hu, h1, sizeOf, typeInfo, hinfo, hsz, add_lit, hlt]
end
end Go.H

/- Literals of several elements of one cell each. -/
set_option linter.unusedVariables false
namespace Go.H
open Go

section
variable {P : Program} {N : Nat} {φ : Fr} {h : Heap} {o : Oper}

theorem RelL.ints {k : IntKind} : ∀ zs : List Int, RelL (kI k) zs (zs.map fun z => Value.int k z)
  | [] => rfl
  | z :: zs => ⟨[Value.int k z], zs.map (fun z => Value.int k z), rfl, rfl, RelL.ints zs⟩

theorem range_cells (n : Nat) (q : Value) : ((Array.range n).map (fun i => #[q][i % 1]!)) = (List.replicate n q).toArray := by
  have h : (fun i => #[q][i % 1]!) = fun _ : Nat => q := by
    funext i
    rw [Nat.mod_one]; rfl
  rw [h]
  apply Array.ext
  · simp
  · intro i h1 h2; simp

/-- a literal of several elements of one cell each -/
theorem opS_litN {α : Type} {K : Kd α} {t E : TypeId} {len b : Nat} {xs : List (Nat × Operand)} {us : List Value} {zs : List α} {zz q : Value} (r : List (Nat × List Value)) (vs : List (Nat × Value)) (ho : o.op = .buildSlice t len xs.toArray) (ht : P.underlying t = some (.slice E)) (hinf : elemInfo P E = some (zz, 1, b)) (hzz : zz.cells = #[q]) (hsm : (Nat.ble 1 len && Nat.ble len 1000) = true)
    (hp : partsOK φ xs r vs) (hf : fillL ((List.range len).map fun i => (i, 1)) (List.replicate len q) r = some us) (h1 : K.size = 1) (hz : RelL K zs us) (hzl : zs.length = len) (hul : us.length = len) :
    OpV P φ o h (Made h [] (fun v => [ownO K E v zs])) := by
  intro a w hev hw'
  subst hw'
  obtain ⟨i, hi, hzr, hs, _⟩ := elemInfo_some hinf
  rw [Bool.and_eq_true] at hsm
  have hs1 := Nat.le_of_ble_eq_true hsm.1
  have hs2 := Nat.le_of_ble_eq_true hsm.2
  have hm := partsOK.map (a := a) hev hp
  have hm' : (xs.toArray.map fun (x : Nat × Operand) => (x.1, a.eval x.2)).toList = vs := by simp [hm]
  have hfill : Instr.fill (fun i => some (i * 1, 1)) ((Array.range len).map (fun i => zz.cells[i % zz.cells.size]!)) vs = some us.toArray := by
    rw [hzz]
    show Instr.fill _ ((Array.range len).map (fun i => #[q][i % 1]!)) vs = _
    rw [range_cells]
    have := fill_of hp hf
    refine fill_total ?_ this
    intro i p hp'
    have hp' : ((List.range len).map fun i => (i, 1))[i]? = some p := by simpa using hp'
    rw [List.getElem?_map] at hp'
    by_cases hl : i < len
    · rw [List.getElem?_range hl, Option.map_some] at hp'
      rw [Nat.mul_one]; exact hp'
    · rw [List.getElem?_eq_none (by simpa using hl)] at hp'; cases hp'
  have hbig : ¬ (16777216 < len) := by omega
  have hn0 : len ≠ 0 := by omega
  have hrun : (execOp a.eval o).run P w = .ok (.value (.slice (some ⟨w.heap.size, 0, none⟩) len len)) (w.alloc (.cells us.toArray E)) := by
    simp [execOp, ho, Instr.buildSlice, run_underlying ht, sizeOf, typeInfo, hi, hs, zeroValue, hzr, newRow, hbig, hn0]
    simp [hm, Nat.mul_one] at hfill ⊢
    simp [hfill]
  refine .inl ⟨_, _, hrun, ⟨rfl, rfl, rfl⟩, (ext_push _ _).mod _, ?_⟩
  have hnew : (w.alloc (.cells us.toArray E)).heap[w.heap.size]? = some (.cells us.toArray E (0, 0)) := heap_alloc_new w _
  have hown : Own K E 0 (w.alloc (.cells us.toArray E)).heap (.slice (some ⟨w.heap.size, 0, none⟩) len len) zs := by
    refine ⟨us, ⟨by simp [hul, hzl, h1], .inr ⟨w.heap.size, len, us.toArray, by rw [hzl], Nat.zero_le _, hnew, by omega, by simp only [maxLen]; omega, by simp [hul, h1], by rw [hzl, h1, Nat.mul_one]; simp [← hul]⟩⟩, hz⟩
  exact Sep.one hown (fun b hb => by
    simp [ownO, Value.ownBlock] at hb
    subst hb
    exact ⟨by show w.heap.size < (w.heap.push _).size; simp, .inl (Nat.le_refl _)⟩)
end
end Go.H

/- Regions that draw their order and turn nothing: walked as a tree. -/
set_option linter.unusedVariables false
namespace Go.H
open Go

section
variable {P : Program} {N : Nat} {Q : Exit → Fr → Heap → Prop} {ops : List Oper} {φ : Fr} {h : Heap} {o : Oper}

/-- the heap stays as it is -/
def HK (P : Program) (N : Nat) (ops : List Oper) (Q : Exit → Fr → Heap → Prop) (fuel : Nat) (listed : Array Bool) (φ : Fr) (h : Heap) : Prop :=
  TK P N ops Q (fun h' => h' = h) fuel listed φ h

theorem W.regionH {id : Nat} (n : Nat) (hn : ops.length = n) (hm : P.follows .mixedOrders = true) (H : HK P N ops Q n (Array.replicate n false) φ h) : W P N (.region id ops.toArray true) Q φ h :=
  W.regionT n (fun h' => h' = h) hn hm rfl H

/-- number 'i' may come first -/
def hkOK (ops : List Oper) (listed : Array Bool) (i : Nat) : Bool := Region.noSelect ops.toArray && Region.free .any ops.toArray listed i && (Region.ready .any ops.toArray listed).contains i

theorem HK.gen (i : Nat) {d : Nat} {u : Value} {fuel : Nat} {listed : Array Bool} (hi : ops[i]? = some o) (hd : o.dst = some d) (hdN : d < N) (hc : hkOK ops listed i = true) (hQ : ∀ c φ h, ¬ Q (.panic c) φ h)
    (hY : ∀ (a : Act) (w : World), Ok N φ a → w.heap = h → (Region.wanted o (yielded ops.toArray a.tmps) = true ∧ (execOp a.eval o).run P w = .ok (.value u) w) ∨ (Region.wanted o (yielded ops.toArray a.tmps) = false ∧ u = undef))
    (H : HK P N ops Q fuel (listed.setIfInBounds i true) ((d, u) :: φ) h) : HK P N ops Q (fuel + 1) listed φ h := by
  intro w0 a w hs hw ho hS
  unfold hkOK at hc
  simp only [Bool.and_eq_true] at hc
  have hi' : ops.toArray[i]? = some o := by simpa using hi
  refine wpAnyH_take (v := u) hi' hc.1.1 hc.1.2 hc.2 (fun c a w hq => ?_) ?_ (by rw [hw]) ?_
  · obtain ⟨_, ψ, _, hq⟩ := hq
    exact absurd hq (hQ c ψ _)
  · rcases hY a w ho hw with ⟨h1, _⟩ | ⟨h1, h2⟩
    · refine .inl ⟨h1, fun w' hS' => ?_⟩
      rcases hY a w' ho hS' with ⟨_, h3⟩ | ⟨h3, _⟩
      · exact h3
      · rw [h1] at h3; cases h3
    · exact .inr ⟨h1, h2⟩
  · rw [hd]
    exact H w0 _ w hs hw (ho.put' hdN) hS

theorem wanted_none {a : Act} (hg : o.guard = none) : Region.wanted o (yielded ops.toArray a.tmps) = true := by simp [Region.wanted, hg]
theorem yielded_of {a : Act} {j t : Nat} {b : Bool} (ho : Ok N φ a) (hj : (ops[j]?).bind (·.dst) = some t) (hb : φ.get t = some (.bool b)) : yielded ops.toArray a.tmps j = some b := by
  unfold yielded
  have : (ops.toArray[j]?).bind (·.dst) = some t := by simpa using hj
  rw [this]
  simp [ho.slot t _ hb]

theorem HK.d (i : Nat) {d : Nat} {u : Value} {fuel : Nat} {listed : Array Bool} (hi : ops[i]? = some o) (hd : o.dst = some d) (hg : o.guard = none) (hdN : d < N) (hc : hkOK ops listed i = true) (hQ : ∀ c φ h, ¬ Q (.panic c) φ h)
    (hY : OpX P φ o h u) (H : HK P N ops Q fuel (listed.setIfInBounds i true) ((d, u) :: φ) h) : HK P N ops Q (fuel + 1) listed φ h :=
  HK.gen i hi hd hdN hc hQ (fun a w ho hw => .inl ⟨wanted_none hg, hY a w (fun x v => ho.eval) hw⟩) H
theorem HK.f (i : Nat) {d : Nat} {R : Value → Prop} {fuel : Nat} {listed : Array Bool} (hi : ops[i]? = some o) (hd : o.dst = some d) (hg : o.guard = none) (hdN : d < N) (hc : hkOK ops listed i = true) (hQ : ∀ c φ h, ¬ Q (.panic c) φ h)
    (hY : ∃ u, R u ∧ OpX P φ o h u) (H : ∀ u, R u → HK P N ops Q fuel (listed.setIfInBounds i true) ((d, u) :: φ) h) : HK P N ops Q (fuel + 1) listed φ h := by
  obtain ⟨u, hu, hx⟩ := hY
  exact HK.d i hi hd hg hdN hc hQ hx (H u hu)
theorem HK.y (i : Nat) {d j t : Nat} {b want : Bool} {u : Value} {fuel : Nat} {listed : Array Bool} (hi : ops[i]? = some o) (hd : o.dst = some d) (hg : o.guard = some (j, want)) (hj : (ops[j]?).bind (·.dst) = some t) (hb : φ.get t = some (.bool b)) (hw : b = want) (hdN : d < N) (hc : hkOK ops listed i = true) (hQ : ∀ c φ h, ¬ Q (.panic c) φ h)
    (hY : OpX P φ o h u) (H : HK P N ops Q fuel (listed.setIfInBounds i true) ((d, u) :: φ) h) : HK P N ops Q (fuel + 1) listed φ h :=
  HK.gen i hi hd hdN hc hQ (fun a w ho hwh => .inl ⟨by simp [Region.wanted, hg, yielded_of ho hj hb, hw], hY a w (fun x v => ho.eval) hwh⟩) H
theorem HK.yf (i : Nat) {d j t : Nat} {b want : Bool} {R : Value → Prop} {fuel : Nat} {listed : Array Bool} (hi : ops[i]? = some o) (hd : o.dst = some d) (hg : o.guard = some (j, want)) (hj : (ops[j]?).bind (·.dst) = some t) (hb : φ.get t = some (.bool b)) (hw : b = want) (hdN : d < N) (hc : hkOK ops listed i = true) (hQ : ∀ c φ h, ¬ Q (.panic c) φ h)
    (hY : ∃ u, R u ∧ OpX P φ o h u) (H : ∀ u, R u → HK P N ops Q fuel (listed.setIfInBounds i true) ((d, u) :: φ) h) : HK P N ops Q (fuel + 1) listed φ h := by
  obtain ⟨u, hu, hx⟩ := hY
  exact HK.y i hi hd hg hj hb hw hdN hc hQ hx (H u hu)
theorem HK.n (i : Nat) {d j t : Nat} {b want : Bool} {fuel : Nat} {listed : Array Bool} (hi : ops[i]? = some o) (hd : o.dst = some d) (hg : o.guard = some (j, want)) (hj : (ops[j]?).bind (·.dst) = some t) (hb : φ.get t = some (.bool b)) (hw : b = !want) (hdN : d < N) (hc : hkOK ops listed i = true) (hQ : ∀ c φ h, ¬ Q (.panic c) φ h)
    (H : HK P N ops Q fuel (listed.setIfInBounds i true) ((d, undef) :: φ) h) : HK P N ops Q (fuel + 1) listed φ h :=
  HK.gen i hi hd hdN hc hQ (fun a w ho hwh => .inr ⟨by
    have hne : ¬ b = want := by rw [hw]; cases want <;> simp
    simp [Region.wanted, hg, yielded_of ho hj hb, hne], rfl⟩) H
theorem HK.u (i : Nat) {d j t : Nat} {want : Bool} {fuel : Nat} {listed : Array Bool} (hi : ops[i]? = some o) (hd : o.dst = some d) (hg : o.guard = some (j, want)) (hj : (ops[j]?).bind (·.dst) = some t) (hb : φ.get t = some undef) (hdN : d < N) (hc : hkOK ops listed i = true) (hQ : ∀ c φ h, ¬ Q (.panic c) φ h)
    (H : HK P N ops Q fuel (listed.setIfInBounds i true) ((d, undef) :: φ) h) : HK P N ops Q (fuel + 1) listed φ h :=
  HK.gen i hi hd hdN hc hQ (fun a w ho hwh => .inr ⟨by
    have hy : yielded ops.toArray a.tmps j = none := by
      unfold yielded
      have : (ops.toArray[j]?).bind (·.dst) = some t := by simpa using hj
      rw [this]
      simp [ho.slot t _ hb, undef]
    simp [Region.wanted, hg, hy], rfl⟩) H

/-- the only one that may come: a call, arithmetic of floats -/
theorem HK.s (i : Nat) {d : Nat} {fuel : Nat} {listed : Array Bool} (K : Value → Heap → Prop) (hi : ops[i]? = some o) (hd : o.dst = some d) (hg : o.guard = none) (hdN : d < N)
    (hr : (Region.ready .any ops.toArray listed == [i]) = true) (hV : OpV P φ o h K) (H : ∀ v h', K v h' → h' = h ∧ HK P N ops Q fuel (listed.setIfInBounds i true) ((d, v) :: φ) h) : HK P N ops Q (fuel + 1) listed φ h :=
  TK.stepD i K hi hd hg hdN hr hV fun v h' hk => by
    obtain ⟨rfl, h2⟩ := H v h' hk
    exact ⟨rfl, h2⟩
theorem HK.sy (i : Nat) {d j t : Nat} {b want : Bool} {fuel : Nat} {listed : Array Bool} (K : Value → Heap → Prop) (hi : ops[i]? = some o) (hd : o.dst = some d) (hg : o.guard = some (j, want)) (hj : (ops[j]?).bind (·.dst) = some t) (hb : φ.get t = some (.bool b)) (hw : b = want) (hdN : d < N)
    (hr : (Region.ready .any ops.toArray listed == [i]) = true) (hV : OpV P φ o h K) (H : ∀ v h', K v h' → h' = h ∧ HK P N ops Q fuel (listed.setIfInBounds i true) ((d, v) :: φ) h) : HK P N ops Q (fuel + 1) listed φ h := by
  intro w0 a w hs hwh ho hS
  have hr' : Region.ready .any ops.toArray listed = [i] := by simpa using hr
  refine wpAnyH_all hr' (by simp) (fun k hk => ?_)
  have hk : k = i := by simpa using hk
  subst hk
  have hi' : ops.toArray[k]? = some o := by simpa using hi
  unfold wpOp
  rw [hi']
  simp only
  rw [if_pos (by simp [Region.wanted, hg, yielded_of ho hj hb, hw])]
  refine .inl (OpV.wp hV ho hwh hs fun v w' hs' hk => ?_)
  rw [hd]
  obtain ⟨h1, h2⟩ := H v w'.heap hk
  exact ⟨h1, h2 w0 _ w' hs' h1 (ho.put' hdN) rfl⟩

theorem HK.done {fuel : Nat} {listed : Array Bool} (hr : (Region.ready .any ops.toArray listed == []) = true) (H : Q .normal φ h) : HK P N ops Q fuel listed φ h := TK.done hr H

theorem opx_fcmp {op : BinOp} {t t' : TypeId} {x y : Operand} {k : FloatKind} {u v : Value} {m n : Option Nat} (ho : o.op = .binOp op t x y t') (hop : (match op with | .eql | .neq | .lss | .leq | .gtr | .geq => true | _ => false) = true) (hx : φ.ev x = some u) (hy : φ.ev y = some v)
    (hu : IsF k u m) (hv : IsF k v n) : OpX P φ o h (.bool (fcmp op k m n)) := by
  intro a w hev hw
  obtain ⟨b, rfl, _, rfl⟩ := hu
  obtain ⟨c, rfl, _, rfl⟩ := hv
  cases op <;> simp at hop <;> simp [execOp, ho, hev x _ hx, hev y _ hy, eqGuard, binOp, Op.floatCmp, fcmp, feq, flt, fle, order_cls] <;> rfl
theorem opx_not {t : TypeId} {x : Operand} {b : Bool} (ho : o.op = .unOp .not t x) (hx : φ.ev x = some (.bool b)) : OpX P φ o h (.bool (!b)) := by
  intro a w hev hw
  simp [execOp, ho, hev x _ hx, Op.unary]
theorem opx_ineg {t : TypeId} {x : Operand} {k : IntKind} {n : Int} (ho : o.op = .unOp .neg t x) (hx : φ.ev x = some (.int k n)) : OpX P φ o h (.int k (k.wrap (0 - n))) := by
  intro a w hev hw
  simp [execOp, ho, hev x _ hx, Op.unary, Op.intArith]
theorem opx_pick {c x y : Operand} {b : Bool} {u v : Value} (ho : o.op = .pick c x y) (hc : φ.ev c = some (.bool b)) (hx : b = true → φ.ev x = some u) (hy : b = false → φ.ev y = some u) (hv : v = u) : OpX P φ o h v := by
  intro a w hev hw
  subst hv
  cases b with
  | true => simp [execOp, ho, hev c _ hc, hev x v (hx rfl), asBool]
  | false => simp [execOp, ho, hev c _ hc, hev y v (hy rfl), asBool]
theorem opx_extract {x : Operand} {n : Nat} {vs : List Value} {u : Value} (ho : o.op = .extract x n) (hx : φ.ev x = some (.tuple vs.toArray)) (hu : vs[n]? = some u) : OpX P φ o h u := by
  intro a w hev hw
  simp [execOp, ho, hev x _ hx, Instr.extract, hu]
theorem opx_i2i {src dst : TypeId} {x : Operand} {k j : IntKind} {n : Int} (ho : o.op = .convert src dst x) (hs : (P.underlying src).isSome = true) (hd : P.underlying dst = some (.int j)) (hx : φ.ev x = some (.int k n)) : OpX P φ o h (.int j (j.wrap n)) := by
  intro a w hev hw
  obtain ⟨u, hs'⟩ := Option.isSome_iff_exists.1 hs
  cases u <;> simp [execOp, ho, hev x _ hx, convert, run_underlying hs', run_underlying hd, Conv.intToInt]
theorem opx_bcmp {op : BinOp} {t t' : TypeId} {x y : Operand} {m n : Bool} (ho : o.op = .binOp op t x y t') (hop : (match op with | .eql | .neq => true | _ => false) = true) (ht : P.underlying t = some .bool) (hx : φ.ev x = some (.bool m)) (hy : φ.ev y = some (.bool n)) : OpX P φ o h (.bool (bcmp op m n)) := by
  intro a w hev hw
  have he : (Op.equal t (.bool m) (.bool n)).run P w = .ok (m == n) w := by
    show (Op.equalIn (9999 + 1) t (.bool m) (.bool n)).run P w = _
    unfold Op.equalIn
    simp only [Sem.run_bind, run_underlying ht, Result.andThen_ok]
    rfl
  have h1 : (binOp .eql t (.bool m) (.bool n)).run P w = .ok (.bool (m == n)) w := by
    show (do pure (Value.bool (← Op.equal t (.bool m) (.bool n))) : Sem Value).run P w = _
    simp only [Sem.run_bind, he, Result.andThen_ok]
    rfl
  have h2 : (binOp .neq t (.bool m) (.bool n)).run P w = .ok (.bool (!(m == n))) w := by
    show (do pure (Value.bool (!(← Op.equal t (.bool m) (.bool n)))) : Sem Value).run P w = _
    simp only [Sem.run_bind, he, Result.andThen_ok]
    rfl
  have g1 : ∀ op, (eqGuard op t x y (.bool m) (.bool n)).run P w = .ok () w := fun op => by cases op <;> rfl
  cases op <;> simp at hop
  · simp only [execOp, ho, hev x _ hx, hev y _ hy, Sem.run_bind, g1, Result.andThen_ok, h1]; rfl
  · simp only [execOp, ho, hev x _ hx, hev y _ hy, Sem.run_bind, g1, Result.andThen_ok, h2]; rfl
theorem opx_loadA {t : TypeId} {x : Operand} {n b k : Nat} {cs us : List Value} (ho : o.op = .load t x) (ht : aggT P t = true) (hn : (P.info? t).map (·.size) = some n) (hx : φ.ev x = some (.pointer (some ⟨b, k, none⟩))) (H : Bx h b cs) (hus : (cs.drop k).take n = us) (hl : us.length = n) : OpX P φ o h (.agg us.toArray) := by
  intro a w hev hw'
  simp [execOp, ho, hev x _ hx, Instr.loadAt, Instr.sureAddr, run_loadVar_agg ht hn H hus hl hw']
theorem opx_len {α : Type} {K : Kd α} {e : Nat} {v : Value} {l : List α} {t E : TypeId} {x : Operand} (ho : o.op = .call { callee := .builtin .len, args := #[x], argTypes := #[t] }) (ht : P.underlying t = some (.slice E)) (hx : φ.ev x = some v) (H : SL K e h v l) : OpX P φ o h (.int .i64 l.length) := by
  intro a w hev hw
  obtain ⟨p, c, xs, rfl, _, _⟩ := H
  simp [execOp, ho, resolve, hev x _ hx, invoke, builtin, Builtin.len_, run_underlying ht, goInt]
theorem opx_loadE {α : Type} {K : Kd α} {e : Nat} {v : Value} {l : List α} {t : TypeId} {x : Operand} {u : Value} {i : Nat} {y : α} (ho : o.op = .load t x) (ht : oneCellT P t = true) (h1 : K.size = 1) (hx : φ.ev x = some u) (hp : PtI K.size u v i) (H : SL K e h v l) (hy : l[i]? = some y) : ∃ r, K.rel y [r] ∧ OpX P φ o h r := by
  obtain ⟨a, r, rfl, hc, hr⟩ := H.cell1 h1 hp hy
  refine ⟨r, hr, fun a' w hev hw' => ?_⟩
  have := run_loadVar_one (P := P) ht (w := w) (a := a) (v := r) (by rw [cell_hw hw']; exact hc)
  simp [execOp, ho, hev x _ hx, Instr.loadAt, Instr.sureAddr, this]
theorem opx_loadF {k : FloatKind} {l : List (Option Nat)} {e : Nat} {v : Value} {t : TypeId} {x : Operand} {u : Value} {n : Int} {y : Option Nat} (ho : o.op = .load t x) (ht : oneCellT P t = true) (hx : φ.ev x = some u) (hp : PtI 1 u v n.toNat) (H : SL (kF k) e h v l) (hy : idx l n = some y) : ∃ r, IsF k r y ∧ OpX P φ o h r := by
  obtain ⟨r, ⟨w, hw, hf⟩, h2⟩ := opx_loadE (K := kF k) ho ht rfl hx hp H (idx_some hy).2.2
  simp at hw; subst hw
  exact ⟨r, hf, h2⟩
theorem opx_loadI {k : IntKind} {l : List Int} {e : Nat} {v : Value} {t : TypeId} {x : Operand} {u : Value} {n : Int} {y : Int} (ho : o.op = .load t x) (ht : oneCellT P t = true) (hx : φ.ev x = some u) (hp : PtI 1 u v n.toNat) (H : SL (kI k) e h v l) (hy : idx l n = some y) : OpX P φ o h (.int k y) := by
  obtain ⟨r, hw, h2⟩ := opx_loadE (K := kI k) ho ht rfl hx hp H (idx_some hy).2.2
  change [r] = [.int k y] at hw
  simp at hw; subst hw
  exact h2
theorem opx_loadBl {l : List Bool} {e : Nat} {v : Value} {t : TypeId} {x : Operand} {u : Value} {n : Int} {y : Bool} (ho : o.op = .load t x) (ht : oneCellT P t = true) (hx : φ.ev x = some u) (hp : PtI 1 u v n.toNat) (H : SL kB e h v l) (hy : idx l n = some y) : OpX P φ o h (.bool y) := by
  obtain ⟨r, hw, h2⟩ := opx_loadE (K := kB) ho ht rfl hx hp H (idx_some hy).2.2
  change [r] = [.bool y] at hw
  simp at hw; subst hw
  exact h2
theorem opx_indexP {α : Type} {K : Kd α} {e : Nat} {v : Value} {l : List α} {t E : TypeId} {x i : Operand} {k : IntKind} {n : Int} {y : α} (ho : o.op = .indexAddr t x i) (ht : P.underlying t = some (.slice E)) (hs : (P.info? E).map (·.size) = some K.size) (hx : φ.ev x = some v) (hi : φ.ev i = some (.int k n)) (H : SL K e h v l) (hn : idx l n = some y) :
    ∃ u, PtI K.size u v n.toNat ∧ OpX P φ o h u := by
  obtain ⟨u, h1, h2⟩ := opx_index (φ := φ) ho ht hs hx hi H hn
  exact ⟨u, h1, h2 h⟩
end
end Go.H

/- Bounds on floats, by powers of two. -/
namespace Go.H
open Go Ieee

/-- less than '2 ^ e' -/
def BdD (e : Int) : Datum → Prop
  | .number _ m p => m = 0 ∨ (m.log2 : Int) + p < e
  | _ => False
/-- at least '2 ^ e', or an infinity -/
def LoD (e : Int) : Datum → Prop
  | .number _ m p => m ≠ 0 ∧ e ≤ (m.log2 : Int) + p
  | .infinity _ => True
  | _ => False
/-- not below nought -/
def NnD : Datum → Prop
  | .number s m _ => s = false ∨ m = 0
  | .infinity s => s = false
  | _ => False

theorem log2_lt_iff {n k : Nat} (h : n ≠ 0) : n.log2 < k ↔ n < 2 ^ k := Nat.log2_lt h
theorem lt_pow_log2 (n : Nat) : n < 2 ^ (n.log2 + 1) := Nat.lt_log2_self
theorem pow_log2_le {n : Nat} (h : n ≠ 0) : 2 ^ n.log2 ≤ n := Nat.log2_self_le h

theorem cut_le_pow (neg : Bool) (n drop k : Nat) (h : n < 2 ^ (k + drop)) : Toward.even.cut neg n drop ≤ 2 ^ k := by
  unfold Toward.cut
  dsimp only
  have hb : ∀ b : Bool, b.toNat ≤ 1 := by decide
  have key : n / (1 <<< min drop (n.log2 + 2)) < 2 ^ k := by
    rw [Nat.one_shiftLeft]
    by_cases hd : drop ≤ n.log2 + 2
    · rw [Nat.min_eq_left hd, Nat.div_lt_iff_lt_mul (Nat.two_pow_pos _), ← Nat.pow_add]
      exact h
    · rw [Nat.min_eq_right (by omega)]
      have : n / 2 ^ (n.log2 + 2) = 0 := Nat.div_eq_of_lt (Nat.lt_trans (lt_pow_log2 n) (Nat.pow_lt_pow_right (by decide) (by omega)))
      rw [this]
      exact Nat.two_pow_pos _
  have := hb (decide ((1 <<< min drop (n.log2 + 2)) < 2 * (n % (1 <<< min drop (n.log2 + 2)))) || ((1 <<< min drop (n.log2 + 2)) == 2 * (n % (1 <<< min drop (n.log2 + 2))) && n / (1 <<< min drop (n.log2 + 2)) % 2 == 1))
  omega

theorem cut_ge_pow (neg : Bool) (n drop k : Nat) (h : 2 ^ (k + drop) ≤ n) : 2 ^ k ≤ Toward.even.cut neg n drop := by
  unfold Toward.cut
  dsimp only
  have hn : n ≠ 0 := by
    have := Nat.two_pow_pos (k + drop)
    omega
  have hl : k + drop ≤ n.log2 := (Nat.le_log2 hn).2 h
  rw [Nat.one_shiftLeft, Nat.min_eq_left (by omega)]
  have : 2 ^ k ≤ n / 2 ^ drop := by
    rw [Nat.le_div_iff_mul_le (Nat.two_pow_pos _), ← Nat.pow_add]
    exact h
  omega

section
variable (f : Format)
structure Format.Ok : Prop where
  neg : f.leastPlace ≤ 0
  two : 2 ≤ f.exponentBits

theorem read_word (neg : Bool) {r : Nat} (h : r < f.signWeight) : f.read (f.word neg r) =
    (if r < f.binade then .number neg r f.leastPlace
    else if r < f.infRung then .number neg (f.binade + r % f.binade) (f.leastPlace + (r / f.binade - 1 : Nat))
    else if r = f.infRung then .infinity neg
    else .nan neg (r - f.infRung)) := by
  have hp : 0 < f.signWeight := by unfold Format.signWeight; exact Nat.two_pow_pos _
  have h1 : f.word neg r % f.signWeight = r := by
    unfold Format.word
    split
    · rw [Nat.add_mod_left, Nat.mod_eq_of_lt h]
    · exact Nat.mod_eq_of_lt h
  have h2 : (f.word neg r / f.signWeight % 2 == 1) = neg := by
    unfold Format.word
    split
    · rename_i hn
      rw [Nat.add_div_left _ hp, Nat.div_eq_of_lt h, hn]; rfl
    · rename_i hn
      rw [Nat.div_eq_of_lt h]; simp at hn; rw [hn]; rfl
  unfold Format.read
  simp only [h1, h2]

theorem log2_of {n k : Nat} (h1 : 2 ^ k ≤ n) (h2 : n < 2 ^ (k + 1)) : n.log2 = k := by
  have hn : n ≠ 0 := by have := Nat.two_pow_pos k; omega
  have a := (Nat.le_log2 hn).2 h1
  have b := (Nat.log2_lt hn).2 h2
  omega

/-- a rung's datum -/
theorem rung_datum (neg : Bool) {r : Nat} (h : r ≤ f.infRung) : 
    (r < f.binade ∧ f.read (f.word neg r) = .number neg r f.leastPlace) ∨
    (f.binade ≤ r ∧ r < f.infRung ∧ ∃ m, m.log2 = f.fractionBits ∧ m ≠ 0 ∧ f.read (f.word neg r) = .number neg m (f.leastPlace + (r / f.binade : Nat) - 1)) ∨
    (r = f.infRung ∧ f.binade ≤ r ∧ f.read (f.word neg r) = .infinity neg) ∨ (r = f.infRung ∧ r < f.binade) := by
  have hb : 0 < f.binade := by unfold Format.binade; exact Nat.two_pow_pos _
  rw [read_word f neg (Nat.lt_of_le_of_lt h f.infRung_lt)]
  by_cases h1 : r < f.binade
  · exact .inl ⟨h1, by rw [if_pos h1]⟩
  · by_cases h2 : r < f.infRung
    · refine .inr (.inl ⟨by omega, h2, f.binade + r % f.binade, ?_, by omega, ?_⟩)
      · have := Nat.mod_lt r hb
        apply log2_of
        · show f.binade ≤ _; omega
        · show _ < 2 ^ (f.fractionBits + 1)
          rw [Nat.pow_succ]
          have : f.binade = 2 ^ f.fractionBits := rfl
          omega
      · rw [if_neg h1, if_pos h2]
        have : 1 ≤ r / f.binade := (Nat.le_div_iff_mul_le hb).2 (by omega)
        congr 1
        omega
    · have h3 : r = f.infRung := by omega
      exact .inr (.inr (.inl ⟨h3, by omega, by rw [if_neg h1, if_neg h2, if_pos h3]⟩))

theorem nearest_rung (neg : Bool) {m : Nat} (hm : m ≠ 0) (p : Int) : ∃ (last : Int) (kept : Nat), f.nearest neg m p = f.word neg (min ((last - f.leastPlace).toNat * f.binade + kept) f.infRung) ∧
    last = max (p + m.log2 - f.fractionBits) f.leastPlace ∧ kept ≤ 2 ^ (f.fractionBits + 1) ∧ (p + m.log2 - f.fractionBits ≥ f.leastPlace → 2 ^ f.fractionBits ≤ kept) := by
  unfold Format.nearest
  rw [if_neg hm]
  refine ⟨_, _, rfl, rfl, ?_, ?_⟩
  · apply cut_le_pow
    rw [Nat.shiftLeft_eq]
    have := lt_pow_log2 m
    refine Nat.lt_of_lt_of_le (Nat.mul_lt_mul_of_pos_right this (Nat.two_pow_pos _)) ?_
    rw [← Nat.pow_add]
    apply Nat.pow_le_pow_right (by decide)
    omega
  · intro hge
    apply cut_ge_pow
    rw [Nat.shiftLeft_eq]
    refine Nat.le_trans ?_ (Nat.mul_le_mul_right _ (pow_log2_le hm))
    rw [← Nat.pow_add]
    apply Nat.pow_le_pow_right (by decide)
    omega

/-- what is written of a number less than '2 ^ e' is at most '2 ^ e' -/
theorem write_bd {e : Int} {s : Bool} {m : Nat} {p : Int} (h : BdD e (.number s m p)) (h1 : f.leastPlace + f.fractionBits < e) (h2 : e + 1 - f.fractionBits - f.leastPlace ≤ 2 ^ f.exponentBits - 2) : BdD (e + 1) (f.read (f.write (.number s m p))) := by
  have hb : 0 < f.binade := by unfold Format.binade; exact Nat.two_pow_pos _
  have hinf : f.infRung = (2 ^ f.exponentBits - 1) * f.binade := rfl
  have hp2 : 0 < 2 ^ f.exponentBits := Nat.two_pow_pos _
  have h2' : e + 1 - f.fractionBits - f.leastPlace ≤ ((2 ^ f.exponentBits : Nat) : Int) - 2 := by simpa using h2
  have small : ∀ r : Nat, r ≤ (e + 1 - f.fractionBits - f.leastPlace).toNat * f.binade → BdD (e + 1) (f.read (f.word s r)) := by
    intro r hr
    have hlt : (e + 1 - f.fractionBits - f.leastPlace).toNat * f.binade < f.infRung := by
      rw [hinf]
      apply Nat.mul_lt_mul_of_pos_right _ hb
      omega
    rcases rung_datum f s (show r ≤ f.infRung by omega) with ⟨a, b⟩ | ⟨a, b, m', c, d, g⟩ | ⟨a, _⟩ | ⟨a, _⟩
    · rw [b]
      by_cases h0 : r = 0
      · exact .inl h0
      · refine .inr ?_
        have : r.log2 < f.fractionBits := (Nat.log2_lt h0).2 a
        omega
    · rw [g]
      refine .inr ?_
      rw [c]
      have : r / f.binade ≤ (e + 1 - f.fractionBits - f.leastPlace).toNat := by
        apply Nat.div_le_of_le_mul
        rw [Nat.mul_comm]; exact hr
      omega
    · omega
    · omega
  by_cases hm : m = 0
  · subst hm
    show BdD _ (f.read (f.nearest s 0 p))
    unfold Format.nearest
    rw [if_pos rfl]
    exact small 0 (Nat.zero_le _)
  · obtain ⟨last, kept, hr, hl, hk, _⟩ := nearest_rung f s hm p
    show BdD _ (f.read (f.nearest s m p))
    rw [hr]
    rcases h with h | h
    · exact absurd h hm
    apply small
    refine Nat.le_trans (Nat.min_le_left ..) ?_
    have e1 : (2 : Nat) ^ (f.fractionBits + 1) = 2 * f.binade := by rw [Nat.pow_succ, Nat.mul_comm]; rfl
    have e2 : (last - f.leastPlace).toNat + 2 ≤ (e + 1 - f.fractionBits - f.leastPlace).toNat := by omega
    calc (last - f.leastPlace).toNat * f.binade + kept ≤ (last - f.leastPlace).toNat * f.binade + 2 * f.binade := by omega
      _ = ((last - f.leastPlace).toNat + 2) * f.binade := by rw [Nat.add_mul]
      _ ≤ _ := Nat.mul_le_mul_right _ e2

/-- what is written of a number of at least '2 ^ e' is at least that -/
theorem write_lo {e : Int} {s : Bool} {m : Nat} {p : Int} (h : LoD e (.number s m p)) (h1 : f.leastPlace + f.fractionBits ≤ e) (he : 2 ≤ f.exponentBits) : LoD e (f.read (f.write (.number s m p))) := by
  obtain ⟨hm, h⟩ := h
  have hb : 0 < f.binade := by unfold Format.binade; exact Nat.two_pow_pos _
  have hinf : f.infRung = (2 ^ f.exponentBits - 1) * f.binade := rfl
  have hp2 : 2 ^ 2 ≤ 2 ^ f.exponentBits := Nat.pow_le_pow_right (by decide) he
  obtain ⟨last, kept, hr, hl, _, hk⟩ := nearest_rung f s hm p
  have hk := hk (by omega)
  show LoD _ (f.read (f.nearest s m p))
  rw [hr]
  have hbi : f.binade ≤ f.infRung := by
    rw [hinf]
    exact Nat.le_mul_of_pos_left _ (by omega)
  have hkb : f.binade ≤ kept := hk
  rcases rung_datum f s (Nat.min_le_right ((last - f.leastPlace).toNat * f.binade + kept) f.infRung) with ⟨a, b⟩ | ⟨a, b, m', c, d, g⟩ | ⟨a, _, g⟩ | ⟨a, g⟩
  · omega
  · rw [g]
    refine ⟨d, ?_⟩
    rw [c]
    have : (last - f.leastPlace).toNat + 1 ≤ min ((last - f.leastPlace).toNat * f.binade + kept) f.infRung / f.binade := by
      rw [Nat.le_div_iff_mul_le hb, Nat.add_mul, Nat.one_mul]
      omega
    omega
  · rw [g]; trivial
  · omega
end
end Go.H

/- Bounds on float64 numbers through the operations. -/
set_option linter.unusedVariables false
namespace Go.H
open Go Ieee

def Bd (e : Int) (x : Option Nat) : Prop := ∀ b, x = some b → BdD e (double.read b)
def Lo (e : Int) (x : Option Nat) : Prop := ∀ b, x = some b → LoD e (double.read b)
def Nn (x : Option Nat) : Prop := ∀ b, x = some b → NnD (double.read b)

theorem bd_none {e : Int} : Bd e none := by intro b h; cases h
theorem lo_none {e : Int} : Lo e none := by intro b h; cases h
theorem nn_none : Nn none := by intro b h; cases h

theorem BdD.mono {e e' : Int} {d : Datum} (h : BdD e d) (he : e ≤ e') : BdD e' d := by
  cases d with
  | number s m p => exact h.imp id (fun h => by omega)
  | infinity _ => exact h
  | nan _ _ => exact h
theorem Bd.mono {e e' : Int} {x : Option Nat} (h : Bd e x) (he : e ≤ e') : Bd e' x := fun b hb => (h b hb).mono he

theorem bd_map {e : Int} {d : Option Datum} (h : ∀ y, d = some y → BdD e y) (h1 : -1022 < e) (h2 : e ≤ 1023) : Bd (e + 1) (d.map double.write) := by
  intro b hb
  obtain ⟨y, hy, rfl⟩ := Option.map_eq_some_iff.1 hb
  have := h y hy
  cases y with
  | number s m p => exact write_bd double this (by show (-1074 : Int) + 52 < e; omega) (by show e + 1 - 52 - (-1074) ≤ 2 ^ 11 - 2; omega)
  | infinity _ => exact absurd this (by intro h; exact h)
  | nan _ _ => exact absurd this (by intro h; exact h)

theorem lo_map {e : Int} {d : Option Datum} (h : ∀ y, d = some y → LoD e y) (h1 : -1022 ≤ e) : Lo e (d.map double.write) := by
  intro b hb
  obtain ⟨y, hy, rfl⟩ := Option.map_eq_some_iff.1 hb
  have := h y hy
  cases y with
  | number s m p => exact write_lo double this (by show (-1074 : Int) + 52 ≤ e; omega) (by decide)
  | infinity s =>
    show LoD e (double.read (double.word s double.infRung))
    rcases rung_datum double s (Nat.le_refl double.infRung) with ⟨a, _⟩ | ⟨_, a, _⟩ | ⟨_, _, g⟩ | ⟨_, a⟩
    · exact absurd a (by decide)
    · omega
    · rw [g]; trivial
    · exact absurd a (by decide)
  | nan _ _ => exact absurd this (by intro h; exact h)

theorem fop_some {op : BinOp} {x y : Option Nat} {r : Nat} (h : fop op .f64 x y = some r) : ∃ a b, x = some a ∧ y = some b ∧ floatBits op .f64 a b = some r := by
  unfold fop at h
  obtain ⟨a, ha, h⟩ := Option.bind_eq_some_iff.1 h
  obtain ⟨b, hb, h⟩ := Option.bind_eq_some_iff.1 h
  exact ⟨a, b, ha, hb, h⟩

theorem natAbs_signed (s : Bool) (m u : Nat) : (signed s m u).natAbs = m * 2 ^ u := by
  unfold signed
  rw [Nat.shiftLeft_eq]
  split <;> omega

theorem scaled {m : Nat} {p e base : Int} (h : m = 0 ∨ (m.log2 : Int) + p < e) (hb : base ≤ p) : m = 0 ∨ (base < e ∧ m * 2 ^ (p - base).toNat < 2 ^ (e - base).toNat) := by
  rcases h with h | h
  · exact .inl h
  · refine .inr ⟨by omega, ?_⟩
    calc m * 2 ^ (p - base).toNat < 2 ^ (m.log2 + 1) * 2 ^ (p - base).toNat := Nat.mul_lt_mul_of_pos_right (lt_pow_log2 m) (Nat.two_pow_pos _)
      _ = 2 ^ (m.log2 + 1 + (p - base).toNat) := (Nat.pow_add ..).symm
      _ ≤ _ := Nat.pow_le_pow_right (by decide) (by omega)

theorem sum_bd {e : Int} {x y z : Datum} (hx : BdD e x) (hy : BdD e y) (h : x.sum y = some z) : BdD (e + 1) z := by
  cases x with
  | infinity _ => exact absurd hx (by intro h; exact h)
  | nan _ _ => exact absurd hx (by intro h; exact h)
  | number s m i =>
    cases y with
    | infinity _ => exact absurd hy (by intro h; exact h)
    | nan _ _ => exact absurd hy (by intro h; exact h)
    | number t n j =>
      simp only [Datum.sum, Option.some.injEq] at h
      subst h
      have h1 := scaled hx (Int.min_le_left i j)
      have h2 := scaled hy (Int.min_le_right i j)
      have hn : (signed s m (i - min i j).toNat + signed t n (j - min i j).toNat).natAbs ≤ m * 2 ^ (i - min i j).toNat + n * 2 ^ (j - min i j).toNat := by
        have := Int.natAbs_add_le (signed s m (i - min i j).toNat) (signed t n (j - min i j).toNat)
        rwa [natAbs_signed, natAbs_signed] at this
      generalize (signed s m (i - min i j).toNat + signed t n (j - min i j).toNat) = T at *
      by_cases h0 : T.natAbs = 0
      · exact .inl h0
      refine .inr ?_
      have hp := Nat.two_pow_pos (e - min i j).toNat
      have hlt : min i j < e := by
        rcases h1 with h1 | ⟨h1, _⟩
        · rcases h2 with h2 | ⟨h2, _⟩
          · subst h1; subst h2; simp at hn; omega
          · exact h2
        · exact h1
      have hA : m * 2 ^ (i - min i j).toNat < 2 ^ (e - min i j).toNat := by
        rcases h1 with h1 | ⟨_, h1⟩
        · subst h1; simpa using hp
        · exact h1
      have hB : n * 2 ^ (j - min i j).toNat < 2 ^ (e - min i j).toNat := by
        rcases h2 with h2 | ⟨_, h2⟩
        · subst h2; simpa using hp
        · exact h2
      have : T.natAbs.log2 < (e - min i j).toNat + 1 := by
        rw [Nat.log2_lt h0, Nat.pow_succ]
        omega
      omega

theorem opposite_bd {e : Int} {x : Datum} (h : BdD e x) : BdD e x.opposite := by
  cases x <;> exact h

theorem Bd.add {e : Int} {x y : Option Nat} (hx : Bd e x) (hy : Bd e y) (h1 : -1023 < e) (h2 : e ≤ 1022) : Bd (e + 2) (fop .add .f64 x y) := by
  cases x with
  | none => exact bd_none
  | some a => cases y with
    | none => exact bd_none
    | some b =>
      have := bd_map (d := (double.read a).sum (double.read b)) (e := e + 1) (fun z hz => sum_bd (hx a rfl) (hy b rfl) hz) (by omega) (by omega)
      rw [show e + 1 + 1 = e + 2 by omega] at this
      exact this
theorem Bd.sub {e : Int} {x y : Option Nat} (hx : Bd e x) (hy : Bd e y) (h1 : -1023 < e) (h2 : e ≤ 1022) : Bd (e + 2) (fop .sub .f64 x y) := by
  cases x with
  | none => exact bd_none
  | some a => cases y with
    | none => exact bd_none
    | some b =>
      have := bd_map (d := (double.read a).sum (double.read b).opposite) (e := e + 1) (fun z hz => sum_bd (hx a rfl) (opposite_bd (hy b rfl)) hz) (by omega) (by omega)
      rw [show e + 1 + 1 = e + 2 by omega] at this
      exact this

theorem log2_mul_lt {m n : Nat} (hm : m ≠ 0) (hn : n ≠ 0) : (m * n).log2 ≤ m.log2 + n.log2 + 1 := by
  have h0 : m * n ≠ 0 := Nat.mul_ne_zero hm hn
  have : (m * n).log2 < m.log2 + n.log2 + 2 := by
    rw [Nat.log2_lt h0]
    calc m * n < 2 ^ (m.log2 + 1) * 2 ^ (n.log2 + 1) := Nat.mul_lt_mul'' (lt_pow_log2 m) (lt_pow_log2 n)
      _ = 2 ^ (m.log2 + n.log2 + 2) := by rw [← Nat.pow_add]; congr 1; omega
  omega

theorem product_bd {d e : Int} {x y z : Datum} (hx : BdD d x) (hy : BdD e y) (h : x.product y = some z) : BdD (d + e) z := by
  cases x with
  | infinity _ => exact absurd hx (by intro h; exact h)
  | nan _ _ => exact absurd hx (by intro h; exact h)
  | number s m i =>
    cases y with
    | infinity _ => exact absurd hy (by intro h; exact h)
    | nan _ _ => exact absurd hy (by intro h; exact h)
    | number t n j =>
      simp only [Datum.product, Option.some.injEq] at h
      subst h
      rcases hx with hx | hx
      · exact .inl (by rw [hx, Nat.zero_mul])
      · rcases hy with hy | hy
        · exact .inl (by rw [hy, Nat.mul_zero])
        · by_cases hm : m = 0
          · exact .inl (by rw [hm, Nat.zero_mul])
          · by_cases hn : n = 0
            · exact .inl (by rw [hn, Nat.mul_zero])
            · refine .inr ?_
              have := log2_mul_lt hm hn
              omega

theorem Bd.mul {d e : Int} {x y : Option Nat} (hx : Bd d x) (hy : Bd e y) (h1 : -1022 < d + e) (h2 : d + e ≤ 1023) : Bd (d + e + 1) (fop .mul .f64 x y) := by
  cases x with
  | none => exact bd_none
  | some a => cases y with
    | none => exact bd_none
    | some b => exact bd_map (d := (double.read a).product (double.read b)) (fun z hz => product_bd (hx a rfl) (hy b rfl) hz) h1 h2

/-- a quotient's size, by those of its parts -/
theorem quotient_log {m n : Nat} (hm : m ≠ 0) (hn : n ≠ 0) (digits : Nat) (i j : Int) :
    ((2 * ((m <<< (digits + n.log2 - m.log2)) / n) + ((m <<< (digits + n.log2 - m.log2)) % n != 0).toNat).log2 : Int) + (i - j - (digits + n.log2 - m.log2 : Nat) - 1) ≤ (m.log2 + i) - (n.log2 + j) ∨ (2 * ((m <<< (digits + n.log2 - m.log2)) / n) + ((m <<< (digits + n.log2 - m.log2)) % n != 0).toNat) = 0 := by
  generalize hk : digits + n.log2 - m.log2 = k
  have hbt : ∀ b : Bool, b.toNat ≤ 1 := by decide
  have hb := hbt ((m <<< k) % n != 0)
  generalize ((m <<< k) % n != 0).toNat = c at *
  have hq : (m <<< k) / n < 2 ^ (m.log2 + 1 + k - n.log2) := by
    rw [Nat.div_lt_iff_lt_mul (Nat.pos_of_ne_zero hn), Nat.shiftLeft_eq]
    calc m * 2 ^ k < 2 ^ (m.log2 + 1) * 2 ^ k := Nat.mul_lt_mul_of_pos_right (lt_pow_log2 m) (Nat.two_pow_pos _)
      _ = 2 ^ (m.log2 + 1 + k) := (Nat.pow_add ..).symm
      _ = 2 ^ (m.log2 + 1 + k - n.log2) * 2 ^ n.log2 := by rw [← Nat.pow_add]; congr 1; omega
      _ ≤ _ := Nat.mul_le_mul_left _ (pow_log2_le hn)
  generalize (m <<< k) / n = q at *
  by_cases h0 : 2 * q + c = 0
  · exact .inr h0
  · left
    have : (2 * q + c).log2 < m.log2 + 1 + k - n.log2 + 1 := by
      rw [Nat.log2_lt h0, Nat.pow_succ]
      omega
    omega

theorem quotient_bd {d e : Int} {digits : Nat} {x y z : Datum} (hx : BdD d x) (hy : LoD e y) (h : x.quotient digits y = some z) : BdD (d - e) z := by
  cases x with
  | infinity _ => exact absurd hx (by intro h; exact h)
  | nan _ _ => exact absurd hx (by intro h; exact h)
  | number s m i =>
    cases y with
    | infinity _ => 
      simp only [Datum.quotient, Option.some.injEq] at h
      subst h
      exact .inl rfl
    | nan _ _ => exact absurd hy (by intro h; exact h)
    | number t n j =>
      obtain ⟨hn, hy⟩ := hy
      simp only [Datum.quotient, if_neg hn, Option.some.injEq] at h
      subst h
      by_cases hm : m = 0
      · refine .inl ?_
        subst hm
        simp
      · rcases hx with hx | hx
        · exact absurd hx hm
        · rcases quotient_log hm hn digits i j with h | h
          · exact .inr (by omega)
          · exact .inl h

theorem Bd.quo {d e : Int} {x y : Option Nat} (hx : Bd d x) (hy : Lo e y) (h1 : -1022 < d - e) (h2 : d - e ≤ 1023) : Bd (d - e + 1) (fop .quo .f64 x y) := by
  cases x with
  | none => exact bd_none
  | some a => cases y with
    | none => exact bd_none
    | some b => exact bd_map (d := (double.read a).quotient 54 (double.read b)) (fun z hz => quotient_bd (hx a rfl) (hy b rfl) hz) h1 h2

/-- the lesser by the greater -/
theorem ratio {x y z : Datum} {digits : Nat} (hx : NnD x) (hy : NnD y) (ho : x.order y ≠ some .gt) (h : x.quotient digits y = some z) : BdD 1 z := by
  cases x with
  | nan _ _ => cases h
  | infinity s =>
    simp only [NnD] at hx
    subst hx
    cases y with
    | nan _ _ => exact absurd hy (by intro h; exact h)
    | infinity t => cases h
    | number t n j => exact absurd rfl ho
  | number s m i =>
    cases y with
    | nan _ _ => exact absurd hy (by intro h; exact h)
    | infinity t =>
      simp only [Datum.quotient, Option.some.injEq] at h
      subst h
      exact .inl rfl
    | number t n j =>
      have sg : ∀ (s : Bool) (m u : Nat), (s = false ∨ m = 0) → signed s m u = ((m * 2 ^ u : Nat) : Int) := by
        intro s m u h
        unfold signed
        rw [Nat.shiftLeft_eq]
        rcases h with h | h <;> subst h <;> simp
      have hle : m * 2 ^ (i - min i j).toNat ≤ n * 2 ^ (j - min i j).toNat := by
        simp only [Datum.order, sg _ _ _ hx, sg _ _ _ hy] at ho
        refine Nat.le_of_not_lt fun hlt => ho ?_
        rw [Option.some.injEq, Int.compare_eq_gt]
        omega
      by_cases hm : m = 0
      · subst hm
        by_cases hn : n = 0
        · subst hn
          simp [Datum.quotient] at h
        · simp only [Datum.quotient, if_neg hn, Option.some.injEq] at h
          subst h
          exact .inl (by simp)
      · have hn : n ≠ 0 := by
          intro hn
          subst hn
          have := Nat.mul_pos (Nat.pos_of_ne_zero hm) (Nat.two_pow_pos (i - min i j).toNat)
          omega
        simp only [Datum.quotient, if_neg hn, Option.some.injEq] at h
        subst h
        have hl : (m.log2 : Int) + i ≤ n.log2 + j := by
          have h1 : 2 ^ (m.log2 + (i - min i j).toNat) < 2 ^ (n.log2 + 1 + (j - min i j).toNat) := by
            rw [Nat.pow_add, Nat.pow_add]
            refine Nat.lt_of_le_of_lt (Nat.mul_le_mul_right _ (pow_log2_le hm)) (Nat.lt_of_le_of_lt hle ?_)
            exact Nat.mul_lt_mul_of_pos_right (lt_pow_log2 n) (Nat.two_pow_pos _)
          have := (Nat.pow_lt_pow_iff_right (by decide : 1 < 2)).1 h1
          omega
        rcases quotient_log hm hn digits i j with h | h
        · exact .inr (by omega)
        · exact .inl h

theorem not_gt {x y : Nat} (h : fcmp .gtr .f64 (some x) (some y) = false) : (double.read x).order (double.read y) ≠ some .gt := by
  intro ho
  have : fcmp .gtr .f64 (some x) (some y) = true := by
    show (double.order x y == some .gt) = true
    show ((double.read x).order (double.read y) == some .gt) = true
    rw [ho]; rfl
  rw [this] at h; cases h

theorem is_gt {x y : Nat} (h : fcmp .gtr .f64 (some x) (some y) = true) : (double.read y).order (double.read x) ≠ some .gt := by
  have h' : ((double.read x).order (double.read y) == some .gt) = true := h
  have h'' : (double.read x).order (double.read y) = some .gt := by simpa using h'
  intro ho
  revert h'' ho
  cases double.read x with
  | nan _ _ => intro h; cases h
  | infinity s => cases double.read y with
    | nan _ _ => intro h; cases h
    | infinity t => cases s <;> cases t <;> decide
    | number t n j => cases s <;> simp [Datum.order]
  | number s m i => cases double.read y with
    | nan _ _ => intro h; cases h
    | infinity t => cases t <;> simp [Datum.order]
    | number t n j =>
      simp only [Datum.order, Option.some.injEq]
      rw [Int.min_comm j i]
      generalize signed s m (i - min i j).toNat = A
      generalize signed t n (j - min i j).toNat = B
      intro h1 h2
      rw [Int.compare_eq_gt] at h1 h2
      omega

/-- the quotient of the lesser by the greater -/
theorem Bd.ratio {x y : Option Nat} (hx : Nn x) (hy : Nn y) : Bd 2 (if fcmp .gtr .f64 x y = true then fop .quo .f64 y x else fop .quo .f64 x y) := by
  cases x with
  | none => split <;> (intro b hb; obtain ⟨_, _, h1, h2, _⟩ := fop_some hb; first | (cases h1; done) | (cases h2; done))
  | some a => cases y with
    | none => split <;> (intro b hb; obtain ⟨_, _, h1, h2, _⟩ := fop_some hb; first | (cases h1; done) | (cases h2; done))
    | some b =>
      split
      · rename_i hc
        exact bd_map (d := (double.read b).quotient 54 (double.read a)) (e := 1) (fun z hz => Go.H.ratio (hy b rfl) (hx a rfl) (is_gt hc) hz) (by omega) (by omega)
      · rename_i hc
        exact bd_map (d := (double.read a).quotient 54 (double.read b)) (e := 1) (fun z hz => Go.H.ratio (hx a rfl) (hy b rfl) (not_gt (by simpa using hc)) hz) (by omega) (by omega)

theorem Nn.sqrt {x : Option Nat} : Nn (fsqrt x) := by
  intro b hb
  unfold fsqrt at hb
  obtain ⟨a, rfl, h⟩ := Option.bind_eq_some_iff.1 hb
  have h : ((double.read a).root 54).map double.write = some b := h
  obtain ⟨d, hd, rfl⟩ := Option.map_eq_some_iff.1 h
  have key : ∀ r, r ≤ double.infRung → NnD (double.read (double.word false r)) := by
    intro r hr
    rcases rung_datum double false hr with ⟨_, g⟩ | ⟨_, _, m, _, _, g⟩ | ⟨_, _, g⟩ | ⟨rfl, a⟩
    · rw [g]; exact .inl rfl
    · rw [g]; exact .inl rfl
    · rw [g]; exact rfl
    · exact absurd a (by decide)
  have zero : ∀ s i, NnD (double.read (double.write (.number s 0 i))) := by
    intro s i
    show NnD (double.read (double.nearest s 0 i))
    unfold Format.nearest
    rw [if_pos rfl]
    rcases rung_datum double s (Nat.zero_le _) with ⟨_, g⟩ | ⟨a, _⟩ | ⟨a, _⟩ | ⟨a, _⟩
    · rw [g]; exact .inr rfl
    · exact absurd a (by decide)
    · exact absurd a (by decide)
    · exact absurd a (by decide)
  have wr : ∀ m p, NnD (double.read (double.write (.number false m p))) := by
    intro m p
    show NnD (double.read (double.nearest false m p))
    unfold Format.nearest
    split
    · exact key 0 (Nat.zero_le _)
    · exact key _ (Nat.min_le_right ..)
  revert hd
  cases double.read a with
  | nan _ _ => intro h; cases h
  | infinity s => 
    cases s
    · intro h; cases h; exact key _ (Nat.le_refl _)
    · intro h; cases h
  | number s m i =>
    unfold Datum.root
    dsimp only
    split
    · rename_i h0
      intro h; cases h
      subst h0
      exact zero s i
    · split
      · intro h; cases h
      · intro h; cases h
        exact wr _ _

theorem sum_lo {d : Datum} {m : Nat} {i : Int} {z : Datum} (hm : m ≠ 0) (hd : NnD d) (h : (Datum.number false m i).sum d = some z) : LoD ((m.log2 : Int) + i) z := by
  cases d with
  | nan _ _ => cases h
  | infinity s => cases h; trivial
  | number t n j =>
    simp only [Datum.sum, Option.some.injEq] at h
    subst h
    have sg : ∀ (s : Bool) (m u : Nat), (s = false ∨ m = 0) → signed s m u = ((m * 2 ^ u : Nat) : Int) := by
      intro s m u h
      unfold signed
      rw [Nat.shiftLeft_eq]
      rcases h with h | h <;> subst h <;> simp
    rw [sg _ _ _ hd, sg false m _ (.inl rfl)]
    have : ((m * 2 ^ (i - min i j).toNat : Nat) + (n * 2 ^ (j - min i j).toNat : Nat) : Int).natAbs = m * 2 ^ (i - min i j).toNat + n * 2 ^ (j - min i j).toNat := by omega
    rw [this]
    have hpos := Nat.mul_pos (Nat.pos_of_ne_zero hm) (Nat.two_pow_pos (i - min i j).toNat)
    have h0 : m * 2 ^ (i - min i j).toNat + n * 2 ^ (j - min i j).toNat ≠ 0 := by omega
    refine ⟨h0, ?_⟩
    have : m.log2 + (i - min i j).toNat ≤ (m * 2 ^ (i - min i j).toNat + n * 2 ^ (j - min i j).toNat).log2 := by
      rw [Nat.le_log2 h0, Nat.pow_add]
      have := Nat.mul_le_mul_right (2 ^ (i - min i j).toNat) (pow_log2_le hm)
      omega
    omega

/-- one and more -/
theorem Lo.one_add {x : Option Nat} (hx : Nn x) : Lo 0 (fop .add .f64 (some 4607182418800017408) x) := by
  cases x with
  | none => exact lo_none
  | some a =>
    have h1 : double.read 4607182418800017408 = .number false 4503599627370496 (-52) := by decide
    refine lo_map (d := (double.read 4607182418800017408).sum (double.read a)) (fun z hz => ?_) (by omega)
    rw [h1] at hz
    have := sum_lo (by decide) (hx a rfl) hz
    rwa [show ((4503599627370496 : Nat).log2 : Int) + -52 = 0 by decide] at this

theorem read_abs (b : Nat) : double.read (b % 2 ^ 63) = (match double.read b with | .number _ m p => .number false m p | .infinity _ => .infinity false | .nan _ t => .nan false t) := by
  have hs : double.signWeight = 2 ^ 63 := by decide
  unfold Format.read
  rw [hs, Nat.mod_mod, Nat.div_eq_of_lt (Nat.mod_lt b (by decide))]
  dsimp only
  split
  · rfl
  · split
    · rfl
    · split <;> rfl

/-- a class: a not-a-number has no bits -/
def Cl (x : Option Nat) : Prop := ∀ b, x = some b → (double.read b).isNaN = false

theorem Nn.abs {x : Option Nat} (h : Cl x) : Nn (fabs x) := by
  intro b hb
  unfold fabs at hb
  obtain ⟨a, rfl, rfl⟩ := Option.map_eq_some_iff.1 hb
  have := h a rfl
  rw [read_abs]
  revert this
  cases double.read a with
  | nan _ _ => intro h; cases h
  | infinity _ => intro _; exact rfl
  | number _ _ _ => intro _; exact .inl rfl

theorem Bd.neg {e : Int} {x : Option Nat} (h : Bd e x) : Bd e (fneg .f64 x) := by
  intro b hb
  unfold fneg at hb
  obtain ⟨a, rfl, rfl⟩ := Option.map_eq_some_iff.1 hb
  have := h a rfl
  have e1 : (Op.negFloat .f64 a) % 2 ^ 63 = a % 2 ^ 63 := by
    show (a ^^^ 2 ^ (11 + 52)) % 2 ^ 63 = _
    rw [Nat.xor_mod_two_pow, show 2 ^ (11 + 52) % 2 ^ 63 = 0 by decide, Nat.xor_zero]
  have key : ∀ b, BdD e (double.read (b % 2 ^ 63)) ↔ BdD e (double.read b) := by
    intro b
    rw [read_abs]
    cases double.read b <;> exact Iff.rfl
  rw [← key, e1, key]
  exact this

theorem Bd.fcv {x : Option Nat} (h : Bd 127 x) : ∃ y, fcv .f64 .f32 x = some y := by
  cases x with
  | none => exact ⟨none, rfl⟩
  | some b =>
    have hb := h b rfl
    revert hb
    show BdD 127 (double.read b) → ∃ y, (floatToFloatBits .f64 b .f32).map some = some y
    unfold floatToFloatBits
    rw [if_neg (by decide)]
    show BdD 127 (double.read b) → ∃ y, (match double.read b with | .nan _ _ => none | .infinity s => some (FloatKind.f32.encode (.infinity s)) | .number s m e => if (FloatKind.f32.decode (FloatKind.f32.encode (.number s m e))).isInfinity then none else some (FloatKind.f32.encode (.number s m e))).map some = some y
    cases double.read b with
    | nan _ _ => intro h; exact absurd h (by intro h; exact h)
    | infinity _ => intro h; exact absurd h (by intro h; exact h)
    | number s m p =>
      intro hb
      dsimp only
      have := write_bd single hb (by decide) (by decide)
      have hi : (FloatKind.f32.decode (FloatKind.f32.encode (.number s m p))).isInfinity = false := by
        show (single.read (single.write (.number s m p))).isInfinity = false
        revert this
        cases single.read (single.write (.number s m p)) with
        | infinity _ => intro h; exact absurd h (by intro h; exact h)
        | number _ _ _ => intro _; rfl
        | nan _ _ => intro _; rfl
      rw [hi]
      exact ⟨_, rfl⟩
end Go.H

/- Widening, roots, numbers against themselves. -/
set_option linter.unusedVariables false
namespace Go.H
open Go Ieee

/-! ### roots -/
theorem rootFrom_sq (n : Nat) : ∀ (todo root : Nat), root * root ≤ n → Datum.rootFrom n todo root * Datum.rootFrom n todo root ≤ n
  | 0, root, h => h
  | todo + 1, root, h => by
    unfold Datum.rootFrom
    dsimp only
    split
    · rename_i h1; exact rootFrom_sq n todo _ h1
    · exact rootFrom_sq n todo _ h

/-- finite and less than '2 ^ e', or an infinity -/
def BiD (e : Int) : Datum → Prop
  | .number _ m p => m = 0 ∨ (m.log2 : Int) + p < e
  | .infinity _ => True
  | _ => False
def Bi (e : Int) (x : Option Nat) : Prop := ∀ b, x = some b → BiD e (double.read b)

theorem log2_sq {w n : Nat} (hw : w ≠ 0) (h : w * w ≤ n) : 2 * w.log2 ≤ n.log2 := by
  have hn : n ≠ 0 := by
    have := Nat.mul_pos (Nat.pos_of_ne_zero hw) (Nat.pos_of_ne_zero hw)
    omega
  rw [Nat.le_log2 hn, Nat.two_mul, Nat.pow_add]
  exact Nat.le_trans (Nat.mul_le_mul (pow_log2_le hw) (pow_log2_le hw)) h

theorem root_bi {e : Int} {x z : Datum} {digits : Nat} (hx : BiD (2 * e) x) (he : 0 ≤ e) (h : x.root digits = some z) : BiD e z := by
  cases x with
  | nan _ _ => cases h
  | infinity s =>
    cases s
    · cases h; trivial
    · cases h
  | number s m i =>
    unfold Datum.root at h
    dsimp only at h
    split at h
    · rename_i h0
      cases h
      exact .inl h0
    · split at h
      · cases h
      · rename_i hm _
        rcases hx with hx | hx
        · exact absurd hx hm
        cases h
        generalize hmore : 2 * digits - m.log2 + ((i - ((2 * digits - m.log2 : Nat) : Int)) % 2).toNat = more
        have hev : (i - (more : Int)) % 2 = 0 := by omega
        have hsq := rootFrom_sq (m <<< more) ((m <<< more).log2 / 2 + 1) 0 (Nat.zero_le _)
        generalize Datum.rootFrom (m <<< more) ((m <<< more).log2 / 2 + 1) 0 = w at *
        have hbt : ∀ b : Bool, b.toNat ≤ 1 := by decide
        have hb := hbt (w * w != m <<< more)
        generalize (w * w != m <<< more).toNat = c at *
        have hlog : (m <<< more).log2 = m.log2 + more := by
          rw [Nat.shiftLeft_eq]
          apply log2_of
          · rw [Nat.pow_add]; exact Nat.mul_le_mul_right _ (pow_log2_le hm)
          · have : m * 2 ^ more < 2 ^ (m.log2 + 1) * 2 ^ more := Nat.mul_lt_mul_of_pos_right (lt_pow_log2 m) (Nat.two_pow_pos _)
            rw [← Nat.pow_add] at this
            rwa [show m.log2 + more + 1 = m.log2 + 1 + more by omega]
        by_cases hw : w = 0
        · subst hw
          by_cases hc : c = 0
          · exact .inl (by omega)
          · have : c = 1 := by omega
            subst this
            refine .inr ?_
            have : (2 * 0 + 1 : Nat).log2 = 0 := by decide
            rw [this]
            have : 0 ≤ m.log2 := Nat.zero_le _
            omega
        · have h2 := log2_sq hw hsq
          rw [hlog] at h2
          refine .inr ?_
          have h3 : (2 * w + c).log2 < w.log2 + 2 := by
            rw [Nat.log2_lt (by omega), Nat.pow_add]
            have := lt_pow_log2 w
            rw [Nat.pow_succ] at this
            omega
          omega

theorem bi_map {e : Int} {d : Option Datum} (h : ∀ y, d = some y → BiD e y) (h1 : -1022 < e) (h2 : e ≤ 1023) : Bi (e + 1) (d.map double.write) := by
  intro b hb
  obtain ⟨y, hy, rfl⟩ := Option.map_eq_some_iff.1 hb
  have := h y hy
  cases y with
  | number s m p =>
    have := write_bd double (e := e) (s := s) (m := m) (p := p) this (by show (-1074 : Int) + 52 < e; omega) (by show e + 1 - 52 - (-1074) ≤ 2 ^ 11 - 2; omega)
    revert this
    cases double.read (double.write (.number s m p)) with
    | number _ _ _ => exact id
    | infinity _ => intro _; trivial
    | nan _ _ => exact id
  | infinity s =>
    show BiD _ (double.read (double.word s double.infRung))
    rcases rung_datum double s (Nat.le_refl double.infRung) with ⟨a, _⟩ | ⟨_, a, _⟩ | ⟨_, _, g⟩ | ⟨_, a⟩
    · exact absurd a (by decide)
    · omega
    · rw [g]; trivial
    · exact absurd a (by decide)
  | nan _ _ => exact absurd this (by intro h; exact h)

theorem Bi.sqrt {e : Int} {x : Option Nat} (h : Bi (2 * e) x) (he : 0 ≤ e) (h2 : e ≤ 1023) : Bi (e + 1) (fsqrt x) := by
  cases x with
  | none => intro b hb; cases hb
  | some a => exact bi_map (d := (double.read a).root 54) (fun z hz => root_bi (h a rfl) he hz) (by omega) h2

theorem Bi.fcv {x : Option Nat} (h : Bi 127 x) : ∃ y, Go.H.fcv .f64 .f32 x = some y := by
  cases x with
  | none => exact ⟨none, rfl⟩
  | some b =>
    cases hr : double.read b with
    | number s m p =>
      refine Bd.fcv fun b' hb' => ?_
      cases hb'
      have := h b rfl
      rw [hr] at this ⊢
      exact this
    | infinity s =>
      show ∃ y, (floatToFloatBits .f64 b .f32).map some = some y
      unfold floatToFloatBits
      rw [if_neg (by decide)]
      have : FloatKind.f64.decode b = .infinity s := hr
      rw [this]
      exact ⟨_, rfl⟩
    | nan s t =>
      have := h b rfl
      rw [hr] at this
      exact absurd this (by intro h; exact h)

/-! ### widening -/
theorem wid_none : wid none = none := rfl

theorem wid_cases (b : Nat) : (∃ s m p, single.read b = .number s m p ∧ m < 2 ^ 24 ∧ p ≤ 104 ∧ -149 ≤ p ∧ wid (some b) = some (double.write (.number s m p))) ∨ (∃ s, single.read b = .infinity s ∧ wid (some b) = some (double.write (.infinity s))) ∨ (∃ s t, single.read b = .nan s t ∧ wid (some b) = none) := by
  have hw : wid (some b) = ((floatToFloatBits .f32 b .f64).map some).getD none := rfl
  cases hd : single.read b with
  | number s m p =>
    obtain ⟨h1, h2⟩ := single_read hd
    refine .inl ⟨s, m, p, rfl, h1, h2, ?_, ?_⟩
    · revert hd
      unfold Format.read
      have : single.leastPlace = -149 := by decide
      rw [this]
      dsimp only
      split
      · intro h; cases h; omega
      · split
        · intro h; cases h; omega
        · split <;> intro h <;> cases h
    · rw [hw]
      have hd' : FloatKind.f32.decode b = .number s m p := hd
      have : (FloatKind.f64.decode (FloatKind.f64.encode (.number s m p))).isInfinity = false := double_finite s m p h1 h2
      have e1 : floatToFloatBits .f32 b .f64 = some (double.write (.number s m p)) := by
        unfold floatToFloatBits
        rw [if_neg (by decide), hd']
        simp only [this]
        rfl
      rw [e1]; rfl
  | infinity s =>
    refine .inr (.inl ⟨s, rfl, ?_⟩)
    rw [hw]
    have hd' : FloatKind.f32.decode b = .infinity s := hd
    have e1 : floatToFloatBits .f32 b .f64 = some (double.write (.infinity s)) := by
      unfold floatToFloatBits
      rw [if_neg (by decide), hd']
      rfl
    rw [e1]; rfl
  | nan s t =>
    refine .inr (.inr ⟨s, t, rfl, ?_⟩)
    rw [hw]
    have hd' : FloatKind.f32.decode b = .nan s t := hd
    have e1 : floatToFloatBits .f32 b .f64 = none := by
      unfold floatToFloatBits
      rw [if_neg (by decide), hd']
    rw [e1]; rfl

/-- what a word reads as keeps sign and nought -/
theorem read_write_zero (s : Bool) (p : Int) : double.read (double.write (.number s 0 p)) = .number s 0 (-1074) := by
  show double.read (double.nearest s 0 p) = _
  unfold Format.nearest
  rw [if_pos rfl]
  rcases rung_datum double s (Nat.zero_le _) with ⟨_, g⟩ | ⟨a, _⟩ | ⟨a, _⟩ | ⟨a, _⟩
  · exact g
  · exact absurd a (by decide)
  · exact absurd a (by decide)
  · exact absurd a (by decide)

theorem read_nearest_sign (s : Bool) (m : Nat) (p : Int) : (double.read (double.nearest s m p)).neg = s ∧ (double.read (double.nearest s m p)).isNaN = false := by
  have key : ∀ r, r ≤ double.infRung → (double.read (double.word s r)).neg = s ∧ (double.read (double.word s r)).isNaN = false := by
    intro r hr
    rcases rung_datum double s hr with ⟨_, g⟩ | ⟨_, _, m, _, _, g⟩ | ⟨_, _, g⟩ | ⟨rfl, a⟩
    · rw [g]; exact ⟨rfl, rfl⟩
    · rw [g]; exact ⟨rfl, rfl⟩
    · rw [g]; exact ⟨rfl, rfl⟩
    · exact absurd a (by decide)
  unfold Format.nearest
  split
  · exact key 0 (Nat.zero_le _)
  · exact key _ (Nat.min_le_right ..)

theorem read_write_inf (s : Bool) : double.read (double.write (.infinity s)) = .infinity s := by
  show double.read (double.word s double.infRung) = _
  rcases rung_datum double s (Nat.le_refl double.infRung) with ⟨a, _⟩ | ⟨_, a, _⟩ | ⟨_, _, g⟩ | ⟨_, a⟩
  · exact absurd a (by decide)
  · omega
  · exact g
  · exact absurd a (by decide)

/-- widened: a number of the same sign, nought where it was nought -/
theorem wid_read (b : Nat) : (∃ s m p, single.read b = .number s m p ∧ ∃ r m' p', wid (some b) = some r ∧ double.read r = .number s m' p' ∧ (m' = 0 ↔ m = 0) ∧ (m' = 0 ∨ (m'.log2 : Int) + p' < 130)) ∨ (∃ s, single.read b = .infinity s ∧ ∃ r, wid (some b) = some r ∧ double.read r = .infinity s) ∨ (∃ s t, single.read b = .nan s t ∧ wid (some b) = none) := by
  rcases wid_cases b with ⟨s, m, p, h1, hm, h2, h3, h4⟩ | ⟨s, h1, h2⟩ | h
  · refine .inl ⟨s, m, p, h1, double.write (.number s m p), ?_⟩
    by_cases h0 : m = 0
    · subst h0
      exact ⟨0, -1074, h4, read_write_zero s p, Iff.rfl, .inl rfl⟩
    · have hl : m.log2 < 24 := (Nat.log2_lt h0).2 hm
      have a := write_lo double (e := -149) (s := s) (m := m) (p := p) ⟨h0, by have := Nat.zero_le m.log2; omega⟩ (by decide) (by decide)
      have b := write_bd double (e := 129) (s := s) (m := m) (p := p) (.inr (by omega)) (by decide) (by decide)
      have c := (read_nearest_sign s m p).1
      have c : (double.read (double.write (.number s m p))).neg = s := c
      cases hr : double.read (double.write (.number s m p)) with
      | number s' m' p' =>
        rw [hr] at a b c
        have : s' = s := c
        subst this
        exact ⟨m', p', h4, rfl, ⟨fun h => absurd h a.1, fun h => absurd h h0⟩, b⟩
      | infinity _ => rw [hr] at b; exact absurd b (by intro h; exact h)
      | nan _ _ => rw [hr] at b; exact absurd b (by intro h; exact h)
  · exact .inr (.inl ⟨s, h1, _, h2, read_write_inf s⟩)
  · exact .inr (.inr h)

theorem Bi.wid (x : Option Nat) : Bi 130 (wid x) := by
  cases x with
  | none => intro b hb; cases hb
  | some a =>
    intro b hb
    rcases wid_read a with ⟨s, m, p, _, r, m', p', h1, h2, _, h3⟩ | ⟨s, _, r, h1, h2⟩ | ⟨s, t, _, h1⟩
    · rw [h1] at hb; cases hb; rw [h2]; exact h3
    · rw [h1] at hb; cases hb; rw [h2]; trivial
    · rw [h1] at hb; cases hb

theorem Cl.wid (x : Option Nat) : Cl (wid x) := by
  intro b hb
  have := Bi.wid x b hb
  revert this
  cases double.read b with
  | number _ _ _ => intro _; rfl
  | infinity _ => intro _; rfl
  | nan _ _ => intro h; exact absurd h (by intro h; exact h)

theorem fcv_sqrt_wid (x : Option Nat) : ∃ y, Go.H.fcv .f64 .f32 (fsqrt (Go.H.wid x)) = some y :=
  Bi.fcv (fun b hb => by
    have h := Bi.sqrt (e := 65) (Bi.wid x) (by omega) (by omega) b hb
    revert h
    cases double.read b with
    | number _ _ _ => exact fun h => h.imp id (fun h => by omega)
    | infinity _ => exact id
    | nan _ _ => exact id)

/-! ### finite? -/
def fin (k : FloatKind) (x : Option Nat) : Bool := match x with
  | some b => (match k.format.read b with | .number .. => true | _ => false)
  | none => false

theorem order_self (d : Datum) (h : d.isNaN = false) : d.order d = some .eq := by
  cases d with
  | nan _ _ => cases h
  | infinity s => cases s <;> rfl
  | number s m i => simp [Datum.order, Int.min_self]

theorem eql_self {k : FloatKind} {b : Nat} (h : (k.format.read b).isNaN = false) : fcmp .eql k (some b) (some b) = true := by
  show (k.format.order b b == some .eq) = true
  have : k.format.order b b = some .eq := order_self _ h
  rw [this]; rfl

theorem sum_opp (s : Bool) (m : Nat) (i : Int) : (Datum.number s m i).sum (Datum.number s m i).opposite = some (.number false 0 i) := by
  show (Datum.number s m i).sum (Datum.number (!s) m i) = _
  unfold Datum.sum
  dsimp only
  rw [Int.min_self, Int.sub_self]
  have : signed s m (Int.toNat 0) + signed (!s) m (Int.toNat 0) = 0 := by cases s <;> simp [signed] <;> omega
  rw [this]
  simp

theorem sub_self (k : FloatKind) (x : Option Nat) : fop .sub k x x = if fin k x then some 0 else none := by
  cases x with
  | none => rfl
  | some b =>
    show ((k.format.read b).sum (k.format.read b).opposite).map k.format.write = _
    show _ = if (match k.format.read b with | .number .. => true | _ => false) = true then some 0 else none
    cases k.format.read b with
    | number s m i =>
      rw [sum_opp]
      cases k <;> rfl
    | infinity s => cases s <;> rfl
    | nan _ _ => rfl

theorem fin_eql (k : FloatKind) (x : Option Nat) : fcmp .eql k (fop .sub k x x) (some 0) = fin k x := by
  rw [sub_self]
  cases fin k x
  · cases k <;> rfl
  · cases k <;> decide

theorem fin_neq (k : FloatKind) (x : Option Nat) : fcmp .neq k (fop .sub k x x) (some 0) = !fin k x := by
  rw [← fin_eql]; rfl

theorem fin_wid (x : Option Nat) : fin .f64 (wid x) = fin .f32 x := by
  cases x with
  | none => rfl
  | some b =>
    rcases wid_read b with ⟨s, m, p, h, r, m', p', h1, h2, _, h3⟩ | ⟨s, h, r, h1, h2⟩ | ⟨s, t, h, h1⟩
    · rw [h1]
      show (match double.read r with | .number .. => true | _ => false) = (match single.read b with | .number .. => true | _ => false)
      rw [h2, h]
    · rw [h1]
      show (match double.read r with | .number .. => true | _ => false) = (match single.read b with | .number .. => true | _ => false)
      rw [h2, h]
    · rw [h1]
      show false = (match single.read b with | .number .. => true | _ => false)
      rw [h]

/-- against nought, a number and its widening stand alike -/
theorem order_zero_wid (x : Option Nat) : ford .f64 (wid x) (some 0) = ford .f32 x (some 0) := by
  have z1 : single.read 0 = .number false 0 (-149) := by decide
  have z2 : double.read 0 = .number false 0 (-1074) := by decide
  have key : ∀ (s : Bool) (m : Nat) (p q : Int), (Datum.number s m p).order (.number false 0 q) = some (if m = 0 then .eq else if s then .lt else .gt) := by
    intro s m p q
    simp only [Datum.order]
    have hpos := Nat.two_pow_pos (p - min p q).toNat
    have e0 : signed false 0 (q - min p q).toNat = 0 := by simp [signed]
    rw [e0]
    unfold signed
    rw [Nat.shiftLeft_eq]
    by_cases h0 : m = 0
    · subst h0; cases s <;> simp
    · have := Nat.mul_pos (Nat.pos_of_ne_zero h0) hpos
      rw [if_neg h0]
      cases s
      · simp only [Bool.false_eq_true, if_false]
        congr 1
        rw [Int.compare_eq_gt]; omega
      · simp only [if_true]
        congr 1
        rw [Int.compare_eq_lt]; omega
  cases x with
  | none => rfl
  | some b =>
    show (wid (some b)).bind (fun a => double.order a 0) = single.order b 0
    rcases wid_read b with ⟨s, m, p, h, r, m', p', h1, h2, h3, _⟩ | ⟨s, h, r, h1, h2⟩ | ⟨s, t, h, h1⟩
    · rw [h1]
      show (double.read r).order (double.read 0) = (single.read b).order (single.read 0)
      rw [h2, h, z1, z2, key, key]
      by_cases h0 : m = 0
      · rw [if_pos h0, if_pos (h3.2 h0)]
      · rw [if_neg h0, if_neg (fun h => h0 (h3.1 h))]
    · rw [h1]
      show (double.read r).order (double.read 0) = (single.read b).order (single.read 0)
      rw [h2, h, z1, z2]
      cases s <;> rfl
    · rw [h1]
      show none = (single.read b).order (single.read 0)
      rw [h]; rfl

theorem fcmp_zero_wid (op : BinOp) (x : Option Nat) : fcmp op .f64 (wid x) (some 0) = fcmp op .f32 x (some 0) := by
  cases op <;> simp only [fcmp, feq, flt, fle, order_zero_wid]
end Go.H

/- Bounds that are met: at most '2 ^ e'. -/
namespace Go.H
open Go Ieee

def LeD (e : Int) : Datum → Prop
  | .number _ m p => m = 0 ∨ (p ≤ e ∧ m ≤ 2 ^ (e - p).toNat)
  | _ => False
def Le (e : Int) (x : Option Nat) : Prop := ∀ b, x = some b → LeD e (double.read b)

instance decBd (e : Int) (d : Datum) : Decidable (BdD e d) := match d with
  | .number _ m p => inferInstanceAs (Decidable (m = 0 ∨ (m.log2 : Int) + p < e))
  | .infinity _ => isFalse id
  | .nan _ _ => isFalse id
instance decLo (e : Int) (d : Datum) : Decidable (LoD e d) := match d with
  | .number _ m p => inferInstanceAs (Decidable (m ≠ 0 ∧ e ≤ (m.log2 : Int) + p))
  | .infinity _ => isTrue trivial
  | .nan _ _ => isFalse id
instance decLe (e : Int) (d : Datum) : Decidable (LeD e d) := match d with
  | .number _ m p => inferInstanceAs (Decidable (m = 0 ∨ (p ≤ e ∧ m ≤ 2 ^ (e - p).toNat)))
  | .infinity _ => isFalse id
  | .nan _ _ => isFalse id

theorem le_none {e : Int} : Le e none := by intro b h; cases h
theorem LeD.mono {e e' : Int} {d : Datum} (h : LeD e d) (he : e ≤ e') : LeD e' d := by
  cases d with
  | number s m p => exact h.imp id (fun h => ⟨by omega, Nat.le_trans h.2 (Nat.pow_le_pow_right (by decide) (by omega))⟩)
  | infinity _ => exact h
  | nan _ _ => exact h
theorem Le.mono {e e' : Int} {x : Option Nat} (h : Le e x) (he : e ≤ e') : Le e' x := fun b hb => (h b hb).mono he
theorem LeD.bd {e : Int} {d : Datum} (h : LeD e d) : BdD (e + 1) d := by
  cases d with
  | number s m p =>
    by_cases h0 : m = 0
    · exact .inl h0
    · refine .inr ?_
      rcases h with h | ⟨h1, h2⟩
      · exact absurd h h0
      · have : m.log2 < (e - p).toNat + 1 := by
          rw [Nat.log2_lt h0, Nat.pow_succ]
          have := Nat.two_pow_pos (e - p).toNat
          omega
        omega
  | infinity _ => exact h
  | nan _ _ => exact h
theorem Le.bd {e : Int} {x : Option Nat} (h : Le e x) : Bd (e + 1) x := fun b hb => (h b hb).bd
theorem BdD.le {e : Int} {d : Datum} (h : BdD e d) : LeD e d := by
  cases d with
  | number s m p =>
    refine h.imp id fun h => ⟨by omega, ?_⟩
    refine Nat.le_trans (Nat.le_of_lt (lt_pow_log2 m)) (Nat.pow_le_pow_right (by decide) (by omega))
  | infinity _ => exact h
  | nan _ _ => exact h

theorem cut_le_pow' (neg : Bool) (n drop k : Nat) (h : n ≤ 2 ^ (k + drop)) : Toward.even.cut neg n drop ≤ 2 ^ k := by
  by_cases hlt : n < 2 ^ (k + drop)
  · exact cut_le_pow neg n drop k hlt
  · have hn : n = 2 ^ (k + drop) := by omega
    subst hn
    unfold Toward.cut
    dsimp only
    rw [Nat.log2_two_pow, Nat.one_shiftLeft, Nat.min_eq_left (by omega)]
    have e1 : 2 ^ (k + drop) / 2 ^ drop = 2 ^ k := by rw [Nat.pow_add, Nat.mul_div_cancel _ (Nat.two_pow_pos _)]
    have e2 : 2 ^ (k + drop) % 2 ^ drop = 0 := by rw [Nat.pow_add, Nat.mul_mod_left]
    rw [e1, e2]
    have hp := Nat.two_pow_pos drop
    have : (decide (2 ^ drop < 2 * 0) || (2 ^ drop == 2 * 0 && 2 ^ k % 2 == 1)) = false := by
      have a : decide (2 ^ drop < 2 * 0) = false := by simp
      have b : (2 ^ drop == 2 * 0) = false := by
        rw [beq_eq_false_iff_ne]; omega
      rw [a, b]; rfl
    rw [this]
    exact Nat.le_refl _

theorem nearest_top (f : Format) (neg : Bool) {m : Nat} (hm : m ≠ 0) (p e : Int) (h1 : p ≤ e) (h2 : m ≤ 2 ^ (e - p).toNat) (h3 : f.leastPlace + f.fractionBits ≤ e) :
    ∃ r, r ≤ (e + 1 - f.fractionBits - f.leastPlace).toNat * f.binade ∧ f.nearest neg m p = f.word neg (min r f.infRung) := by
  unfold Format.nearest
  rw [if_neg hm]
  refine ⟨_, ?_, rfl⟩
  by_cases hl : (m.log2 : Int) + p < e
  · have hk : Toward.even.cut neg (m <<< (p - max (p + m.log2 - f.fractionBits) f.leastPlace).toNat) (max (p + m.log2 - f.fractionBits) f.leastPlace - p).toNat ≤ 2 ^ (f.fractionBits + 1) := by
      apply cut_le_pow
      rw [Nat.shiftLeft_eq]
      refine Nat.lt_of_lt_of_le (Nat.mul_lt_mul_of_pos_right (lt_pow_log2 m) (Nat.two_pow_pos _)) ?_
      rw [← Nat.pow_add]
      apply Nat.pow_le_pow_right (by decide)
      omega
    have e1 : (2 : Nat) ^ (f.fractionBits + 1) = 2 * f.binade := by rw [Nat.pow_succ, Nat.mul_comm]; rfl
    by_cases hsub : p + m.log2 - f.fractionBits < f.leastPlace
    · -- below the normal ones
      have hk2 : Toward.even.cut neg (m <<< (p - max (p + m.log2 - f.fractionBits) f.leastPlace).toNat) (max (p + m.log2 - f.fractionBits) f.leastPlace - p).toNat ≤ 2 ^ f.fractionBits := by
        apply cut_le_pow
        rw [Nat.shiftLeft_eq]
        refine Nat.lt_of_lt_of_le (Nat.mul_lt_mul_of_pos_right (lt_pow_log2 m) (Nat.two_pow_pos _)) ?_
        rw [← Nat.pow_add]
        apply Nat.pow_le_pow_right (by decide)
        omega
      have e2 : (max (p + m.log2 - f.fractionBits) f.leastPlace - f.leastPlace).toNat = 0 := by omega
      rw [e2, Nat.zero_mul, Nat.zero_add]
      refine Nat.le_trans hk2 ?_
      exact Nat.le_mul_of_pos_left _ (by omega)
    · have e2 : (max (p + m.log2 - f.fractionBits) f.leastPlace - f.leastPlace).toNat + 2 ≤ (e + 1 - f.fractionBits - f.leastPlace).toNat := by omega
      refine Nat.le_trans (Nat.add_le_add_left hk _) ?_
      rw [e1, ← Nat.add_mul]
      exact Nat.mul_le_mul_right _ e2
  · have hlog : m.log2 = (e - p).toNat := by
      have hle : m.log2 < (e - p).toNat + 1 := by
        rw [Nat.log2_lt hm, Nat.pow_succ]
        have := Nat.two_pow_pos (e - p).toNat
        omega
      omega
    have hk : Toward.even.cut neg (m <<< (p - max (p + m.log2 - f.fractionBits) f.leastPlace).toNat) (max (p + m.log2 - f.fractionBits) f.leastPlace - p).toNat ≤ 2 ^ f.fractionBits := by
      apply cut_le_pow'
      rw [Nat.shiftLeft_eq]
      refine Nat.le_trans (Nat.mul_le_mul_right _ h2) ?_
      rw [← Nat.pow_add]
      apply Nat.pow_le_pow_right (by decide)
      omega
    have e2 : (max (p + m.log2 - f.fractionBits) f.leastPlace - f.leastPlace).toNat + 1 ≤ (e + 1 - f.fractionBits - f.leastPlace).toNat := by omega
    refine Nat.le_trans (Nat.add_le_add_left hk _) ?_
    have : f.binade = 2 ^ f.fractionBits := rfl
    rw [← this]
    calc _ = ((max (p + m.log2 - f.fractionBits) f.leastPlace - f.leastPlace).toNat + 1) * f.binade := by rw [Nat.add_mul, Nat.one_mul]
      _ ≤ _ := Nat.mul_le_mul_right _ e2

/-- a rung's bound -/
theorem rung_le (f : Format) (s : Bool) {r : Nat} {e : Int} (h : r ≤ (e + 1 - f.fractionBits - f.leastPlace).toNat * f.binade) (h3 : f.leastPlace + f.fractionBits ≤ e) (h2 : e + 1 - f.fractionBits - f.leastPlace ≤ ((2 ^ f.exponentBits : Nat) : Int) - 2) : LeD e (f.read (f.word s (min r f.infRung))) := by
  have hb : 0 < f.binade := by unfold Format.binade; exact Nat.two_pow_pos _
  have hinf : f.infRung = (2 ^ f.exponentBits - 1) * f.binade := rfl
  have hp2 : 0 < 2 ^ f.exponentBits := Nat.two_pow_pos _
  have hlt : (e + 1 - f.fractionBits - f.leastPlace).toNat * f.binade < f.infRung := by
    rw [hinf]
    apply Nat.mul_lt_mul_of_pos_right _ hb
    omega
  rw [Nat.min_eq_left (by omega)]
  have hbin : f.binade = 2 ^ f.fractionBits := rfl
  rw [read_word f s (Nat.lt_of_le_of_lt (Nat.le_of_lt (Nat.lt_of_le_of_lt h hlt)) f.infRung_lt)]
  by_cases h1 : r < f.binade
  · rw [if_pos h1]
    refine .inr ⟨by omega, ?_⟩
    refine Nat.le_trans (Nat.le_of_lt h1) ?_
    rw [hbin]
    exact Nat.pow_le_pow_right (by decide) (by omega)
  · rw [if_neg h1, if_pos (by omega)]
    refine .inr ?_
    have hq1 : 1 ≤ r / f.binade := (Nat.le_div_iff_mul_le hb).2 (by omega)
    have hmod := Nat.mod_lt r hb
    have hdm := Nat.div_add_mod r f.binade
    by_cases hq : r / f.binade < (e + 1 - f.fractionBits - f.leastPlace).toNat
    · refine ⟨by omega, ?_⟩
      have : f.binade + r % f.binade ≤ 2 ^ (f.fractionBits + 1) := by rw [Nat.pow_succ, ← hbin]; omega
      refine Nat.le_trans this (Nat.pow_le_pow_right (by decide) (by omega))
    · have hqe : r / f.binade = (e + 1 - f.fractionBits - f.leastPlace).toNat := by
        have : r / f.binade ≤ (e + 1 - f.fractionBits - f.leastPlace).toNat := by
          apply Nat.div_le_of_le_mul; rw [Nat.mul_comm]; exact h
        omega
      have hr0 : r % f.binade = 0 := by
        rw [hqe] at hdm
        rw [Nat.mul_comm] at hdm
        omega
      rw [hqe, hr0]
      refine ⟨by omega, ?_⟩
      rw [Nat.add_zero, hbin]
      exact Nat.pow_le_pow_right (by decide) (by omega)

theorem write_le {e : Int} {s : Bool} {m : Nat} {p : Int} (h : LeD e (.number s m p)) (h1 : -1022 ≤ e) (h2 : e ≤ 1023) : LeD e (double.read (double.write (.number s m p))) := by
  have a : double.leastPlace + double.fractionBits ≤ e := by show (-1074 : Int) + 52 ≤ e; omega
  have b : e + 1 - double.fractionBits - double.leastPlace ≤ ((2 ^ double.exponentBits : Nat) : Int) - 2 := by show e + 1 - 52 - (-1074) ≤ ((2 ^ 11 : Nat) : Int) - 2; omega
  by_cases hm : m = 0
  · subst hm
    rw [read_write_zero]
    exact .inl rfl
  · rcases h with h | ⟨h3, h4⟩
    · exact absurd h hm
    · obtain ⟨r, hr, hw⟩ := nearest_top double s hm p e h3 h4 a
      show LeD e (double.read (double.nearest s m p))
      rw [hw]
      exact rung_le double s hr a b

theorem le_map {e : Int} {d : Option Datum} (h : ∀ y, d = some y → LeD e y) (h1 : -1022 ≤ e) (h2 : e ≤ 1023) : Le e (d.map double.write) := by
  intro b hb
  obtain ⟨y, hy, rfl⟩ := Option.map_eq_some_iff.1 hb
  have := h y hy
  cases y with
  | number s m p => exact write_le this h1 h2
  | infinity _ => exact absurd this (by intro h; exact h)
  | nan _ _ => exact absurd this (by intro h; exact h)

theorem scaledLe {m : Nat} {p e base : Int} (h : m = 0 ∨ (p ≤ e ∧ m ≤ 2 ^ (e - p).toNat)) (hb : base ≤ p) : m * 2 ^ (p - base).toNat ≤ 2 ^ (e - base).toNat := by
  rcases h with h | ⟨h1, h2⟩
  · subst h; rw [Nat.zero_mul]; exact Nat.zero_le _
  · calc m * 2 ^ (p - base).toNat ≤ 2 ^ (e - p).toNat * 2 ^ (p - base).toNat := Nat.mul_le_mul_right _ h2
      _ = 2 ^ (e - base).toNat := by rw [← Nat.pow_add]; congr 1; omega

theorem sum_le {e : Int} {x y z : Datum} (hx : LeD e x) (hy : LeD e y) (h : x.sum y = some z) : LeD (e + 1) z ∧ (x.neg ≠ y.neg → LeD e z) := by
  cases x with
  | infinity _ => exact absurd hx (by intro h; exact h)
  | nan _ _ => exact absurd hx (by intro h; exact h)
  | number s m i =>
    cases y with
    | infinity _ => exact absurd hy (by intro h; exact h)
    | nan _ _ => exact absurd hy (by intro h; exact h)
    | number t n j =>
      simp only [Datum.sum, Option.some.injEq] at h
      subst h
      have h1 := scaledLe hx (Int.min_le_left i j)
      have h2 := scaledLe hy (Int.min_le_right i j)
      have base : ∀ T : Nat, T ≠ 0 → T ≤ m * 2 ^ (i - min i j).toNat + n * 2 ^ (j - min i j).toNat → min i j ≤ e := by
        intro T hT hT2
        rcases hx with hx | hx
        · rcases hy with hy | hy
          · subst hx; subst hy; simp at hT2; omega
          · omega
        · omega
      have hn : (signed s m (i - min i j).toNat + signed t n (j - min i j).toNat).natAbs ≤ m * 2 ^ (i - min i j).toNat + n * 2 ^ (j - min i j).toNat := by
        have := Int.natAbs_add_le (signed s m (i - min i j).toNat) (signed t n (j - min i j).toNat)
        rwa [natAbs_signed, natAbs_signed] at this
      constructor
      · by_cases h0 : (signed s m (i - min i j).toNat + signed t n (j - min i j).toNat).natAbs = 0
        · exact .inl h0
        · have hb := base _ h0 hn
          refine .inr ⟨by omega, ?_⟩
          rw [show (e + 1 - min i j).toNat = (e - min i j).toNat + 1 by omega, Nat.pow_succ]
          omega
      · intro hst
        have hst : s ≠ t := hst
        by_cases h0 : (signed s m (i - min i j).toNat + signed t n (j - min i j).toNat).natAbs = 0
        · exact .inl h0
        · have hb := base _ h0 hn
          refine .inr ⟨by omega, ?_⟩
          have e1 : ∀ (s : Bool) (m u : Nat), signed s m u = if s then -((m * 2 ^ u : Nat) : Int) else ((m * 2 ^ u : Nat) : Int) := by
            intro s m u; unfold signed; rw [Nat.shiftLeft_eq]
          rw [e1, e1]
          cases s <;> cases t
          · exact absurd rfl hst
          · simp only [Bool.false_eq_true, if_false, if_true]; omega
          · simp only [Bool.false_eq_true, if_false, if_true]; omega
          · exact absurd rfl hst

theorem opposite_le {e : Int} {x : Datum} (h : LeD e x) : LeD e x.opposite := by
  cases x <;> exact h

theorem Le.add {e : Int} {x y : Option Nat} (hx : Le e x) (hy : Le e y) (h1 : -1023 ≤ e) (h2 : e ≤ 1022) : Le (e + 1) (fop .add .f64 x y) := by
  cases x with
  | none => exact le_none
  | some a => cases y with
    | none => exact le_none
    | some b => exact le_map (d := (double.read a).sum (double.read b)) (fun z hz => (sum_le (hx a rfl) (hy b rfl) hz).1) (by omega) (by omega)
theorem Le.sub {e : Int} {x y : Option Nat} (hx : Le e x) (hy : Le e y) (h1 : -1023 ≤ e) (h2 : e ≤ 1022) : Le (e + 1) (fop .sub .f64 x y) := by
  cases x with
  | none => exact le_none
  | some a => cases y with
    | none => exact le_none
    | some b => exact le_map (d := (double.read a).sum (double.read b).opposite) (fun z hz => (sum_le (hx a rfl) (opposite_le (hy b rfl)) hz).1) (by omega) (by omega)

/-- the sign of a number -/
def Sg (s : Bool) (x : Option Nat) : Prop := ∀ b, x = some b → (double.read b).neg = s
theorem Le.addOpp {e : Int} {s : Bool} {x y : Option Nat} (hx : Le e x) (hy : Le e y) (sx : Sg s x) (sy : Sg (!s) y) (h1 : -1022 ≤ e) (h2 : e ≤ 1023) : Le e (fop .add .f64 x y) := by
  cases x with
  | none => exact le_none
  | some a => cases y with
    | none => exact le_none
    | some b => exact le_map (d := (double.read a).sum (double.read b)) (fun z hz => (sum_le (hx a rfl) (hy b rfl) hz).2 (by rw [sx a rfl, sy b rfl]; cases s <;> decide)) h1 h2
theorem Le.subSame {e : Int} {s : Bool} {x y : Option Nat} (hx : Le e x) (hy : Le e y) (sx : Sg s x) (sy : Sg s y) (h1 : -1022 ≤ e) (h2 : e ≤ 1023) : Le e (fop .sub .f64 x y) := by
  cases x with
  | none => exact le_none
  | some a => cases y with
    | none => exact le_none
    | some b =>
      refine le_map (d := (double.read a).sum (double.read b).opposite) (fun z hz => (sum_le (hx a rfl) (opposite_le (hy b rfl)) hz).2 ?_) h1 h2
      have h1 := sx a rfl
      have h2 := sy b rfl
      rw [h1]
      have h3 := hy b rfl
      revert h2 h3
      cases double.read b with
      | number t n j => intro h2 _; show s ≠ !t; have : t = s := h2; rw [this]; cases s <;> decide
      | infinity _ => intro _ h; exact absurd h (by intro h; exact h)
      | nan _ _ => intro _ h; exact absurd h (by intro h; exact h)

theorem product_le {d e : Int} {x y z : Datum} (hx : LeD d x) (hy : LeD e y) (h : x.product y = some z) : LeD (d + e) z := by
  cases x with
  | infinity _ => exact absurd hx (by intro h; exact h)
  | nan _ _ => exact absurd hx (by intro h; exact h)
  | number s m i =>
    cases y with
    | infinity _ => exact absurd hy (by intro h; exact h)
    | nan _ _ => exact absurd hy (by intro h; exact h)
    | number t n j =>
      simp only [Datum.product, Option.some.injEq] at h
      subst h
      rcases hx with hx | ⟨h1, h2⟩
      · exact .inl (by rw [hx, Nat.zero_mul])
      · rcases hy with hy | ⟨h3, h4⟩
        · exact .inl (by rw [hy, Nat.mul_zero])
        · refine .inr ⟨by omega, ?_⟩
          calc m * n ≤ 2 ^ (d - i).toNat * 2 ^ (e - j).toNat := Nat.mul_le_mul h2 h4
            _ = _ := by rw [← Nat.pow_add]; congr 1; omega

theorem Le.mul {d e : Int} {x y : Option Nat} (hx : Le d x) (hy : Le e y) (h1 : -1022 ≤ d + e) (h2 : d + e ≤ 1023) : Le (d + e) (fop .mul .f64 x y) := by
  cases x with
  | none => exact le_none
  | some a => cases y with
    | none => exact le_none
    | some b => exact le_map (d := (double.read a).product (double.read b)) (fun z hz => product_le (hx a rfl) (hy b rfl) hz) h1 h2

theorem quotient_le {d e : Int} {digits : Nat} {x y z : Datum} (hx : LeD d x) (hy : LoD e y) (h : x.quotient digits y = some z) : LeD (d - e) z := by
  cases x with
  | infinity _ => exact absurd hx (by intro h; exact h)
  | nan _ _ => exact absurd hx (by intro h; exact h)
  | number s m i =>
    cases y with
    | infinity _ =>
      simp only [Datum.quotient, Option.some.injEq] at h
      subst h
      exact .inl rfl
    | nan _ _ => exact absurd hy (by intro h; exact h)
    | number t n j =>
      obtain ⟨hn, hy⟩ := hy
      simp only [Datum.quotient, if_neg hn, Option.some.injEq] at h
      subst h
      by_cases hm : m = 0
      · refine .inl ?_
        subst hm
        simp
      · rcases hx with hx | ⟨hx1, hx2⟩
        · exact absurd hx hm
        · generalize hk : digits + n.log2 - m.log2 = k
          -- m * 2^k ≤ T * n, T = 2^(d - e - i + j + k)
          have hlm : m.log2 ≤ (d - i).toNat := by
            have := Nat.log2_lt hm (k := (d - i).toNat + 1)
            have h3 : m < 2 ^ ((d - i).toNat + 1) := by
              rw [Nat.pow_succ]
              have := Nat.two_pow_pos (d - i).toNat
              omega
            have := this.2 h3
            omega
          by_cases hneg : (d - i) + k < n.log2
          · -- the quotient is less than one: below any place
            have hq : (m <<< k) / n = 0 := by
              apply Nat.div_eq_of_lt
              rw [Nat.shiftLeft_eq]
              calc m * 2 ^ k ≤ 2 ^ (d - i).toNat * 2 ^ k := Nat.mul_le_mul_right _ hx2
                _ = 2 ^ ((d - i).toNat + k) := (Nat.pow_add ..).symm
                _ < 2 ^ n.log2 := Nat.pow_lt_pow_right (by decide) (by omega)
                _ ≤ n := pow_log2_le hn
            omega
          · have hT : m <<< k ≤ 2 ^ ((d - i).toNat + k - n.log2) * n := by
              rw [Nat.shiftLeft_eq]
              calc m * 2 ^ k ≤ 2 ^ (d - i).toNat * 2 ^ k := Nat.mul_le_mul_right _ hx2
                _ = 2 ^ ((d - i).toNat + k - n.log2) * 2 ^ n.log2 := by rw [← Nat.pow_add, ← Nat.pow_add]; congr 1; omega
                _ ≤ _ := Nat.mul_le_mul_left _ (pow_log2_le hn)
            have hbt : ∀ b : Bool, b.toNat ≤ 1 := by decide
            have hmag : 2 * ((m <<< k) / n) + ((m <<< k) % n != 0).toNat ≤ 2 * 2 ^ ((d - i).toNat + k - n.log2) := by
              generalize hA : m <<< k = A at *
              have hdm := Nat.div_add_mod A n
              by_cases hlt : A / n < 2 ^ ((d - i).toNat + k - n.log2)
              · have := hbt (A % n != 0)
                omega
              · have h4 : A / n ≤ 2 ^ ((d - i).toNat + k - n.log2) := by
                  apply Nat.div_le_of_le_mul; rw [Nat.mul_comm]; exact hT
                have h5 : A / n = 2 ^ ((d - i).toNat + k - n.log2) := by omega
                have h6 : A % n = 0 := by
                  rw [h5, Nat.mul_comm] at hdm
                  omega
                rw [h5, h6]
                exact Nat.le_refl _
            by_cases h0 : 2 * ((m <<< k) / n) + ((m <<< k) % n != 0).toNat = 0
            · exact .inl h0
            · refine .inr ⟨by omega, Nat.le_trans hmag ?_⟩
              rw [show 2 * 2 ^ ((d - i).toNat + k - n.log2) = 2 ^ ((d - i).toNat + k - n.log2 + 1) by rw [Nat.pow_succ, Nat.mul_comm]]
              exact Nat.pow_le_pow_right (by decide) (by omega)

theorem Le.quo {d e : Int} {x y : Option Nat} (hx : Le d x) (hy : Lo e y) (h1 : -1022 ≤ d - e) (h2 : d - e ≤ 1023) : Le (d - e) (fop .quo .f64 x y) := by
  cases x with
  | none => exact le_none
  | some a => cases y with
    | none => exact le_none
    | some b => exact le_map (d := (double.read a).quotient 54 (double.read b)) (fun z hz => quotient_le (hx a rfl) (hy b rfl) hz) h1 h2

theorem Le.fcv {e : Int} {x : Option Nat} (h : Le e x) (he : e ≤ 126) : ∃ y, Go.H.fcv .f64 .f32 x = some y := Bd.fcv (h.bd.mono (by omega))
theorem le_const (e : Int) (b : Nat) (h : LeD e (double.read b)) : Le e (some b) := by
  intro c hc; cases hc; exact h
theorem bd_const (e : Int) (b : Nat) (h : BdD e (double.read b)) : Bd e (some b) := by
  intro c hc; cases hc; exact h
theorem lo_const (e : Int) (b : Nat) (h : LoD e (double.read b)) : Lo e (some b) := by
  intro c hc; cases hc; exact h
theorem sg_const (s : Bool) (b : Nat) (h : (double.read b).neg = s) : Sg s (some b) := by
  intro c hc; cases hc; exact h
theorem Le.neg {e : Int} {x : Option Nat} (h : Le e x) : Le e (fneg .f64 x) := by
  intro b hb
  unfold fneg at hb
  obtain ⟨a, rfl, rfl⟩ := Option.map_eq_some_iff.1 hb
  have := h a rfl
  have e1 : (Op.negFloat .f64 a) % 2 ^ 63 = a % 2 ^ 63 := by
    show (a ^^^ 2 ^ (11 + 52)) % 2 ^ 63 = _
    rw [Nat.xor_mod_two_pow, show 2 ^ (11 + 52) % 2 ^ 63 = 0 by decide, Nat.xor_zero]
  have key : ∀ b, LeD e (double.read (b % 2 ^ 63)) ↔ LeD e (double.read b) := by
    intro b
    rw [read_abs]
    cases double.read b <;> exact Iff.rfl
  rw [← key, e1, key]
  exact this
end Go.H

/- Whole numbers and what is left over. -/
set_option linter.unusedVariables false
namespace Go.H
open Go Ieee

/-- a magnitude that the format has is written as it stands -/
theorem read_exact (s : Bool) {m : Nat} {p : Int} (hm : m ≠ 0) (h1 : m < 2 ^ 53) (h2 : -1074 ≤ p) (h3 : p ≤ 900) : double.read (double.nearest s m p) = .number s (m <<< (p - max (p + m.log2 - 52) (-1074)).toNat) (max (p + m.log2 - 52) (-1074)) ∧ max (p + m.log2 - 52) (-1074) ≤ p := by
  have hlog : m.log2 < 53 := (Nat.log2_lt hm).2 h1
  have hlast : max (p + m.log2 - 52) (-1074) ≤ p := by omega
  refine ⟨?_, hlast⟩
  have hL : double.leastPlace = -1074 := by decide
  have hF : double.fractionBits = 52 := by decide
  have hB : double.binade = 4503599627370496 := by decide
  have hI : double.infRung = 9218868437227405312 := by decide
  have hS : double.signWeight = 9223372036854775808 := by decide
  unfold Format.nearest
  rw [if_neg hm]
  dsimp only
  rw [hL, hF]
  have e0 : (max (p + (m.log2 : Int) - ((52 : Nat) : Int)) (-1074) - p).toNat = 0 := by omega
  have hcut : ∀ n, Toward.even.cut s n 0 = n := by
    intro n
    unfold Toward.cut
    dsimp only
    have h1 : (1 : Nat) <<< min 0 (n.log2 + 2) = 1 := by simp
    rw [h1, Nat.div_one, Nat.mod_one]
    have : (decide (1 < 2 * 0) || (1 == 2 * 0 && n % 2 == 1)) = false := by
      have a : decide (1 < 2 * 0) = false := by decide
      have b : (1 == 2 * 0) = false := by decide
      rw [a, b]; rfl
    rw [this]; rfl
  rw [e0, hcut]
  have ecast : ((52 : Nat) : Int) = 52 := rfl
  rw [ecast]
  generalize hlast' : max (p + (m.log2 : Int) - 52) (-1074) = last at *
  have hkept : m <<< (p - last).toNat < 2 ^ 53 := by
    rw [Nat.shiftLeft_eq]
    calc m * 2 ^ (p - last).toNat < 2 ^ (m.log2 + 1) * 2 ^ (p - last).toNat := Nat.mul_lt_mul_of_pos_right (lt_pow_log2 m) (Nat.two_pow_pos _)
      _ = 2 ^ (m.log2 + 1 + (p - last).toNat) := (Nat.pow_add ..).symm
      _ ≤ 2 ^ 53 := Nat.pow_le_pow_right (by decide) (by omega)
  have hbig : last > -1074 → 2 ^ 52 ≤ m <<< (p - last).toNat := by
    intro hgt
    rw [Nat.shiftLeft_eq]
    calc 2 ^ 52 ≤ 2 ^ (m.log2 + (p - last).toNat) := Nat.pow_le_pow_right (by decide) (by omega)
      _ = 2 ^ m.log2 * 2 ^ (p - last).toNat := Nat.pow_add ..
      _ ≤ _ := Nat.mul_le_mul_right _ (pow_log2_le hm)
  generalize m <<< (p - last).toNat = K at *
  have hll : last ≤ 900 := by omega
  have hge : -1074 ≤ last := by omega
  rw [hB, hI]
  have e52 : (2 : Nat) ^ 52 = 4503599627370496 := by decide
  have e53 : (2 : Nat) ^ 53 = 9007199254740992 := by decide
  rw [e53] at hkept
  rw [e52] at hbig
  have hq : (last - -1074).toNat ≤ 1974 := by omega
  rw [Nat.min_eq_left (by omega)]
  rw [read_word double s (by rw [hS]; omega)]
  rw [hB, hI, hL]
  by_cases hz : last = -1074
  · subst hz
    have : (-1074 - -1074 : Int).toNat = 0 := by decide
    rw [this, Nat.zero_mul, Nat.zero_add]
    by_cases hlt : K < 4503599627370496
    · rw [if_pos hlt]
    · rw [if_neg hlt, if_pos (by omega)]
      have hmod : K % 4503599627370496 = K - 4503599627370496 := by omega
      have hdiv : K / 4503599627370496 = 1 := by omega
      rw [hmod, hdiv, Nat.add_sub_cancel' (by omega)]
      rfl
  · have hb := hbig (by omega)
    rw [if_neg (by omega), if_pos (by omega)]
    have hmod : ((last - -1074).toNat * 4503599627370496 + K) % 4503599627370496 = K - 4503599627370496 := by omega
    have hdiv : ((last - -1074).toNat * 4503599627370496 + K) / 4503599627370496 = (last - -1074).toNat + 1 := by omega
    rw [hmod, hdiv, Nat.add_sub_cancel' (by omega)]
    have e1 : -1074 + ((((last - -1074).toNat + 1 - 1 : Nat)) : Int) = last := by omega
    rw [e1]

theorem cut_whole (s : Bool) (n drop : Nat) : Toward.zero.cut s n drop = n / 2 ^ drop := by
  unfold Toward.cut
  dsimp only
  rw [Nat.one_shiftLeft]
  show n / 2 ^ min drop (n.log2 + 2) + Bool.toNat false = _
  by_cases h : drop ≤ n.log2 + 2
  · rw [Nat.min_eq_left h]; rfl
  · rw [Nat.min_eq_right (by omega)]
    have : ∀ k, n.log2 + 2 ≤ k → n / 2 ^ k = 0 := fun k hk => Nat.div_eq_of_lt (Nat.lt_trans (lt_pow_log2 n) (Nat.pow_lt_pow_right (by decide) (by omega)))
    rw [this _ (Nat.le_refl _), this _ (by omega)]; rfl

theorem cmp_geq (a b : Int) : (some (compare a b) == some Ordering.gt || some (compare a b) == some Ordering.eq) = decide (b ≤ a) := by
  rcases Int.lt_trichotomy a b with h | h | h
  · rw [Int.compare_eq_lt.2 h, decide_eq_false (by omega)]; rfl
  · subst h; rw [Int.compare_eq_eq.2 rfl, decide_eq_true (by omega)]; rfl
  · rw [Int.compare_eq_gt.2 h, decide_eq_true (by omega)]; rfl
theorem cmp_leq (a b : Int) : (some (compare a b) == some Ordering.lt || some (compare a b) == some Ordering.eq) = decide (a ≤ b) := by
  rcases Int.lt_trichotomy a b with h | h | h
  · rw [Int.compare_eq_lt.2 h, decide_eq_true (by omega)]; rfl
  · subst h; rw [Int.compare_eq_eq.2 rfl, decide_eq_true (by omega)]; rfl
  · rw [Int.compare_eq_gt.2 h, decide_eq_false (by omega)]; rfl
theorem cmp_gtr (a b : Int) : (some (compare a b) == some Ordering.gt) = decide (b < a) := by
  rcases Int.lt_trichotomy a b with h | h | h
  · rw [Int.compare_eq_lt.2 h, decide_eq_false (by omega)]; rfl
  · subst h; rw [Int.compare_eq_eq.2 rfl, decide_eq_false (by omega)]; rfl
  · rw [Int.compare_eq_gt.2 h, decide_eq_true (by omega)]; rfl
theorem cmp_lss (a b : Int) : (some (compare a b) == some Ordering.lt) = decide (a < b) := by
  rcases Int.lt_trichotomy a b with h | h | h
  · rw [Int.compare_eq_lt.2 h, decide_eq_true (by omega)]; rfl
  · subst h; rw [Int.compare_eq_eq.2 rfl, decide_eq_false (by omega)]; rfl
  · rw [Int.compare_eq_gt.2 h, decide_eq_false (by omega)]; rfl

theorem signed_eq (s : Bool) (m u : Nat) : signed s m u = if s then -((m * 2 ^ u : Nat) : Int) else ((m * 2 ^ u : Nat) : Int) := by
  unfold signed; rw [Nat.shiftLeft_eq]

/-- 'less than nought' tells the sign -/
theorem Sg.lss {x : Option Nat} (h : fcmp .lss .f64 x (some 0) = true) : Sg true x := by
  intro b hb
  subst hb
  have h : ((double.read b).order (double.read 0) == some .lt) = true := h
  have z : double.read 0 = .number false 0 (-1074) := by decide
  rw [z] at h
  revert h
  cases double.read b with
  | nan s t => intro h; cases h
  | infinity s => cases s <;> intro h <;> first | rfl | cases h
  | number s m i =>
    simp only [Datum.order, cmp_lss, signed_eq]
    cases s
    · intro h
      simp only [decide_eq_true_eq, Bool.false_eq_true, if_false] at h
      exfalso; omega
    · intro _; rfl

theorem Sg.geq {x : Option Nat} {c : Nat} (hc : ∃ m p, double.read c = .number false m p ∧ m ≠ 0) (h : fcmp .geq .f64 x (some c) = true) : Sg false x := by
  intro b hb
  subst hb
  obtain ⟨n, j, hc, hn⟩ := hc
  have h : ((double.read b).order (double.read c) == some .gt || (double.read b).order (double.read c) == some .eq) = true := h
  rw [hc] at h
  revert h
  cases double.read b with
  | nan s t => intro h; cases h
  | infinity s => cases s <;> intro h <;> first | rfl | cases h
  | number s m i =>
    simp only [Datum.order, cmp_geq, signed_eq]
    cases s
    · intro _; rfl
    · intro h
      simp only [decide_eq_true_eq, Bool.false_eq_true, if_false, if_true] at h
      have := Nat.mul_pos (Nat.pos_of_ne_zero hn) (Nat.two_pow_pos (j - min i j).toNat)
      exfalso; omega

theorem geq_of_gtr {x y : Option Nat} (h : fcmp .gtr .f64 x y = true) : fcmp .geq .f64 x y = true := by
  have h : (ford .f64 x y == some .gt) = true := h
  show (ford .f64 x y == some .gt || ford .f64 x y == some .eq) = true
  rw [h]; rfl

/-- 'at least', of the magnitude -/
theorem geq_abs {x : Option Nat} {c d : Nat} {n : Nat} {j : Int} (hn : n ≠ 0) (hc : double.read c = .number false n j) (hd : double.read d = .number true n j) (hx : Cl x) : fcmp .geq .f64 (fabs x) (some c) = (fcmp .geq .f64 x (some c) || fcmp .leq .f64 x (some d)) := by
  cases x with
  | none => rfl
  | some b =>
    have hb := hx b rfl
    show ((double.read (b % 2 ^ 63)).order (double.read c) == some .gt || (double.read (b % 2 ^ 63)).order (double.read c) == some .eq) = ((double.read b).order (double.read c) == some .gt || (double.read b).order (double.read c) == some .eq || ((double.read b).order (double.read d) == some .lt || (double.read b).order (double.read d) == some .eq))
    rw [read_abs, hc, hd]
    revert hb
    cases double.read b with
    | nan _ _ => intro h; cases h
    | infinity s => intro _; cases s <;> rfl
    | number s m i =>
      intro _
      simp only [Datum.order, cmp_geq, cmp_leq, signed_eq]
      have := Nat.mul_pos (Nat.pos_of_ne_zero hn) (Nat.two_pow_pos (j - min i j).toNat)
      generalize n * 2 ^ (j - min i j).toNat = N at *
      generalize m * 2 ^ (i - min i j).toNat = M at *
      cases s
      · simp only [Bool.false_eq_true, if_false, if_true]
        have : decide ((M : Int) ≤ -(N : Int)) = false := decide_eq_false (by omega)
        rw [this, Bool.or_false]
      · simp only [Bool.false_eq_true, if_false, if_true]
        have h1 : decide ((N : Int) ≤ -(M : Int)) = false := decide_eq_false (by omega)
        rw [h1, Bool.false_or, decide_eq_decide]
        omega

/-- a number of less than 2^52: its whole part, and that what is left over is at most one -/
theorem whole {x : Option Nat} (hf : fin .f64 x = true) (hc : fcmp .geq .f64 (fabs x) (some 4841369599423283200) = false) : ∃ n, ftoi .f64 .i64 x = some n ∧ Le 0 (fop .sub .f64 x (fofi .f64 n)) := by
  cases x with
  | none => cases hf
  | some b =>
    have hf : (match double.read b with | .number .. => true | _ => false) = true := hf
    have hc : ((double.read (b % 2 ^ 63)).order (double.read 4841369599423283200) == some .gt || (double.read (b % 2 ^ 63)).order (double.read 4841369599423283200) == some .eq) = false := hc
    have ec : double.read 4841369599423283200 = .number false 4503599627370496 0 := by decide
    rw [read_abs, ec] at hc
    cases hd : double.read b with
    | nan _ _ => rw [hd] at hf; cases hf
    | infinity _ => rw [hd] at hf; cases hf
    | number s m i =>
      rw [hd] at hc
      simp only [Datum.order, cmp_geq, signed_eq, Bool.false_eq_true, if_false] at hc
      have hc := of_decide_eq_false hc
      -- the whole part
      have hint : (FloatKind.f64.decode b).toInt .zero = some (signed s (m <<< i.toNat / 2 ^ (-i).toNat) 0) := by
        show (double.read b).toInt .zero = _
        rw [hd]
        unfold Datum.toInt Datum.integral
        simp only [cut_whole]
      generalize hN : m <<< i.toNat / 2 ^ (-i).toNat = N at *
      have e52 : (2 : Nat) ^ 52 = 4503599627370496 := by decide
      have hNlt : N < 2 ^ 52 := by
        rw [← hN, Nat.shiftLeft_eq]
        by_cases hi : 0 ≤ i
        · have e1 : (-i).toNat = 0 := by omega
          have e2 : min i 0 = 0 := by omega
          rw [e2, Int.sub_zero, Int.sub_zero] at hc
          have e3 : Int.toNat 0 = 0 := rfl
          rw [e3, Nat.pow_zero, Nat.mul_one] at hc
          rw [e1, Nat.pow_zero, Nat.div_one]
          omega
        · have e1 : i.toNat = 0 := by omega
          have e2 : min i 0 = i := by omega
          rw [e2, Int.sub_self] at hc
          have e3 : ((0 : Int) - i).toNat = (-i).toNat := by omega
          have e4 : Int.toNat 0 = 0 := rfl
          rw [e3, e4, Nat.pow_zero, Nat.mul_one] at hc
          rw [e1, Nat.pow_zero, Nat.mul_one]
          rw [Nat.div_lt_iff_lt_mul (Nat.two_pow_pos _), e52]
          omega
      have hsg : signed s N 0 = if s then -(N : Int) else (N : Int) := by
        rw [signed_eq, Nat.pow_zero, Nat.mul_one]
      have hft : ftoi .f64 .i64 (some b) = some (signed s N 0) := by
        show floatToIntVal .f64 b .i64 = _
        unfold floatToIntVal
        rw [hint]
        dsimp only
        rw [if_pos]
        rw [hsg]
        show (-9223372036854775808 : Int) ≤ _ ∧ _ ≤ (9223372036854775807 : Int)
        cases s
        · simp only [Bool.false_eq_true, if_false]; omega
        · simp only [if_true]; omega
      refine ⟨_, hft, ?_⟩
      -- what is left over
      refine le_map (d := (double.read b).sum (double.read (FloatKind.f64.nearest (signed s N 0))).opposite) (fun z hz => ?_) (by omega) (by omega)
      rw [hd] at hz
      have hnear : FloatKind.f64.nearest (signed s N 0) = double.nearest (decide (signed s N 0 < 0)) (signed s N 0).natAbs 0 := rfl
      have hab : (signed s N 0).natAbs = N := by rw [hsg]; cases s <;> simp
      rw [hnear, hab] at hz
      by_cases hN0 : N = 0
      · have hz0 : double.read (double.nearest (decide (signed s N 0 < 0)) N 0) = .number (decide (signed s N 0 < 0)) 0 (-1074) := by rw [hN0]; exact read_write_zero _ _
        rw [hz0] at hz
        simp only [Datum.opposite, Datum.sum, Option.some.injEq] at hz
        subst hz
        have hlt : m * 2 ^ i.toNat < 2 ^ (-i).toNat := by
          rw [hN0, Nat.shiftLeft_eq] at hN
          rcases Nat.div_eq_zero_iff.1 hN with h | h
          · have := Nat.two_pow_pos (-i).toNat; omega
          · exact h
        have hn : (signed s m (i - min i (-1074)).toNat + signed (!decide (signed s N 0 < 0)) 0 (-1074 - min i (-1074)).toNat).natAbs = m * 2 ^ (i - min i (-1074)).toNat := by
          have e0 : signed (!decide (signed s N 0 < 0)) 0 (-1074 - min i (-1074)).toNat = 0 := by
            rw [signed_eq, Nat.zero_mul]; split <;> simp
          rw [e0, Int.add_zero, natAbs_signed]
        refine .inr ⟨by omega, ?_⟩
        rw [hn]
        by_cases hi : 0 ≤ i
        · have e1 : (-i).toNat = 0 := by omega
          rw [e1, Nat.pow_zero] at hlt
          have hm0 : m = 0 := by
            have := Nat.two_pow_pos i.toNat
            rcases Nat.eq_zero_or_pos m with h | h
            · exact h
            · have := Nat.mul_pos h this; omega
          rw [hm0, Nat.zero_mul]; exact Nat.zero_le _
        · have e1 : i.toNat = 0 := by omega
          rw [e1, Nat.pow_zero, Nat.mul_one] at hlt
          calc m * 2 ^ (i - min i (-1074)).toNat ≤ 2 ^ (-i).toNat * 2 ^ (i - min i (-1074)).toNat := Nat.mul_le_mul_right _ (Nat.le_of_lt hlt)
            _ = 2 ^ (0 - min i (-1074)).toNat := by rw [← Nat.pow_add]; congr 1; omega
      · have hneg : decide (signed s N 0 < 0) = s := by
          rw [hsg]
          cases s
          · simp only [Bool.false_eq_true, if_false]; exact decide_eq_false (by omega)
          · simp only [if_true]; exact decide_eq_true (by omega)
        rw [hneg] at hz
        obtain ⟨hr, hle⟩ := read_exact s hN0 (by rw [show (2 : Nat) ^ 53 = 9007199254740992 by decide]; omega) (by decide : (-1074 : Int) ≤ 0) (by decide)
        rw [hr] at hz
        generalize max ((0 : Int) + N.log2 - 52) (-1074) = L at *
        simp only [Datum.opposite, Datum.sum, Option.some.injEq] at hz
        subst hz
        have hA : N <<< (0 - L).toNat * 2 ^ (L - min i L).toNat = N * 2 ^ (0 - min i L).toNat := by
          rw [Nat.shiftLeft_eq, Nat.mul_assoc, ← Nat.pow_add]
          congr 2; omega
        have hB : N * 2 ^ (-i).toNat ≤ m * 2 ^ i.toNat ∧ m * 2 ^ i.toNat < N * 2 ^ (-i).toNat + 2 ^ (-i).toNat := by
          rw [← hN, Nat.shiftLeft_eq]
          have h1 := Nat.div_mul_le_self (m * 2 ^ i.toNat) (2 ^ (-i).toNat)
          have h2 := Nat.lt_div_mul_add (a := m * 2 ^ i.toNat) (Nat.two_pow_pos (-i).toNat)
          exact ⟨h1, h2⟩
        -- both sides in the common place
        have hC : N * 2 ^ (0 - min i L).toNat ≤ m * 2 ^ (i - min i L).toNat ∧ m * 2 ^ (i - min i L).toNat ≤ N * 2 ^ (0 - min i L).toNat + 2 ^ (0 - min i L).toNat := by
          by_cases hi : 0 ≤ i
          · have e1 : (-i).toNat = 0 := by omega
            rw [e1, Nat.pow_zero, Nat.mul_one] at hB
            have hNe : N = m * 2 ^ i.toNat := by omega
            have : m * 2 ^ (i - min i L).toNat = N * 2 ^ (0 - min i L).toNat := by
              rw [hNe, Nat.mul_assoc, ← Nat.pow_add]; congr 2; omega
            rw [this]
            exact ⟨Nat.le_refl _, Nat.le_add_right _ _⟩
          · have e1 : i.toNat = 0 := by omega
            rw [e1, Nat.pow_zero, Nat.mul_one] at hB
            have e2 : (0 - min i L).toNat = (-i).toNat + (i - min i L).toNat := by omega
            rw [e2, Nat.pow_add]
            constructor
            · rw [← Nat.mul_assoc]; exact Nat.mul_le_mul_right _ hB.1
            · rw [← Nat.mul_assoc, ← Nat.add_mul]
              exact Nat.mul_le_mul_right _ (Nat.le_of_lt hB.2)
        refine .inr ⟨by omega, ?_⟩
        rw [signed_eq, signed_eq, hA]
        generalize m * 2 ^ (i - min i L).toNat = A at *
        generalize N * 2 ^ (0 - min i L).toNat = B at *
        generalize 2 ^ (0 - min i L).toNat = C at *
        cases s
        · simp only [Bool.not_false, Bool.false_eq_true, if_false, if_true]; omega
        · simp only [Bool.not_true, Bool.false_eq_true, if_false, if_true]; omega
end Go.H

/- Half of a number: a product and a quotient. -/
set_option linter.unusedVariables false
namespace Go.H
open Go Ieee

theorem log2_mul_pow {n : Nat} (hn : n ≠ 0) (k : Nat) : (n * 2 ^ k).log2 = n.log2 + k := by
  apply log2_of
  · rw [Nat.pow_add]; exact Nat.mul_le_mul_right _ (pow_log2_le hn)
  · rw [show n.log2 + k + 1 = (n.log2 + 1) + k by omega, Nat.pow_add]
    exact Nat.mul_lt_mul_of_pos_right (lt_pow_log2 n) (Nat.two_pow_pos _)

theorem cut_mul (neg : Bool) {n : Nat} (hn : n ≠ 0) (k d : Nat) : Toward.even.cut neg (n * 2 ^ k) (d + k) = Toward.even.cut neg n d := by
  unfold Toward.cut
  dsimp only
  have hk := Nat.two_pow_pos k
  have e0 : min (d + k) ((n * 2 ^ k).log2 + 2) = min d (n.log2 + 2) + k := by rw [log2_mul_pow hn]; omega
  rw [e0]
  generalize min d (n.log2 + 2) = g
  simp only [Nat.one_shiftLeft]
  rw [Nat.pow_add, Nat.mul_div_mul_right _ _ hk, Nat.mul_mod_mul_right]
  have e1 : decide (2 ^ g * 2 ^ k < 2 * (n % 2 ^ g * 2 ^ k)) = decide (2 ^ g < 2 * (n % 2 ^ g)) := by
    rw [decide_eq_decide, ← Nat.mul_assoc]
    exact Nat.mul_lt_mul_right hk
  have e2 : (2 ^ g * 2 ^ k == 2 * (n % 2 ^ g * 2 ^ k)) = (2 ^ g == 2 * (n % 2 ^ g)) := by
    rw [Bool.eq_iff_iff, beq_iff_eq, beq_iff_eq, ← Nat.mul_assoc]
    exact ⟨fun h => Nat.eq_of_mul_eq_mul_right hk h, fun h => congrArg (· * 2 ^ k) h⟩
  rw [e1, e2]

theorem nearest_mul (f : Format) (s : Bool) (m k : Nat) (p : Int) : f.nearest s (m * 2 ^ k) (p - k) = f.nearest s m p := by
  by_cases hm : m = 0
  · subst hm; unfold Format.nearest; simp
  have hk := Nat.two_pow_pos k
  have hmk : m * 2 ^ k ≠ 0 := Nat.mul_ne_zero hm (by omega)
  unfold Format.nearest
  rw [if_neg hm, if_neg hmk, log2_mul_pow hm]
  have e0 : p - (k : Int) + ((m.log2 + k : Nat) : Int) - f.fractionBits = p + m.log2 - f.fractionBits := by omega
  simp only [e0]
  generalize max (p + (m.log2 : Int) - f.fractionBits) f.leastPlace = last
  have key : Toward.even.cut s ((m * 2 ^ k) <<< (p - k - last).toNat) (last - (p - k)).toNat = Toward.even.cut s (m <<< (p - last).toNat) (last - p).toNat := by
    rw [Nat.shiftLeft_eq, Nat.shiftLeft_eq]
    by_cases h1 : p < last
    · have a1 : (p - k - last).toNat = 0 := by omega
      have a2 : (p - last).toNat = 0 := by omega
      have a3 : (last - (p - k)).toNat = (last - p).toNat + k := by omega
      rw [a1, a2, a3, Nat.pow_zero, Nat.mul_one, Nat.mul_one]
      exact cut_mul s hm k _
    · have a2 : (last - p).toNat = 0 := by omega
      rw [a2]
      by_cases h2 : last ≤ p - k
      · have a3 : (last - (p - k)).toNat = 0 := by omega
        have a4 : (p - last).toNat = k + (p - k - last).toNat := by omega
        rw [a3, a4, Nat.pow_add, ← Nat.mul_assoc]
      · have a3 : (p - k - last).toNat = 0 := by omega
        have a4 : k = (p - last).toNat + (last - (p - k)).toNat := by omega
        rw [a3, Nat.pow_zero, Nat.mul_one]
        conv => lhs; rw [show m * 2 ^ k = m * 2 ^ (p - last).toNat * 2 ^ (last - (p - k)).toNat by rw [Nat.mul_assoc, ← Nat.pow_add, ← a4]]
        have := cut_mul s (n := m * 2 ^ (p - last).toNat) (Nat.mul_ne_zero hm (by have := Nat.two_pow_pos (p - last).toNat; omega)) (last - (p - k)).toNat 0
        rw [Nat.zero_add] at this
        exact this
  rw [key]

theorem read_log {b : Nat} {s : Bool} {m : Nat} {i : Int} (h : single.read b = .number s m i) : m < 16777216 := by
  unfold Format.read at h
  dsimp only at h
  have hb : single.binade = 8388608 := by decide
  split at h
  · cases h; omega
  · split at h
    · cases h
      have := Nat.mod_lt (b % single.signWeight) (show 0 < single.binade by decide)
      omega
    · split at h <;> cases h

/-- half of a number -/
theorem half32 (x : Option Nat) : fop .quo .f32 x (some 1073741824) = fop .mul .f32 (some 1056964608) x := by
  cases x with
  | none => rfl
  | some b =>
    have r2 : single.read 1073741824 = .number false 8388608 (-22) := by decide
    have rh : single.read 1056964608 = .number false 8388608 (-24) := by decide
    show ((single.read b).quotient (single.fractionBits + 2) (single.read 1073741824)).map single.write = ((single.read 1056964608).product (single.read b)).map single.write
    rw [r2, rh]
    cases hr : single.read b with
    | nan s t => rfl
    | infinity s => cases s <;> rfl
    | number s m i =>
      have hm := read_log hr
      show some (single.nearest (s ^^ false) (2 * (m <<< (single.fractionBits + 2 + (8388608 : Nat).log2 - m.log2) / 8388608) + (m <<< (single.fractionBits + 2 + (8388608 : Nat).log2 - m.log2) % 8388608 != 0).toNat) (i - (-22) - ((single.fractionBits + 2 + (8388608 : Nat).log2 - m.log2 : Nat) : Int) - 1)) = some (single.nearest (false ^^ s) (8388608 * m) (-24 + i))
      congr 1
      rw [Bool.xor_false, Bool.false_xor]
      have hl : m.log2 ≤ 23 := by
        by_cases h0 : m = 0
        · subst h0; decide
        · have : m.log2 < 24 := (Nat.log2_lt h0).2 hm
          omega
      have hd : (8388608 : Nat).log2 = 23 := by decide
      have hf : single.fractionBits = 23 := rfl
      rw [hd, hf]
      obtain ⟨c, hc⟩ : ∃ c, 23 + 2 + 23 - m.log2 = 23 + c := ⟨25 - m.log2, by omega⟩
      rw [hc, Nat.shiftLeft_eq, Nat.pow_add]
      have e8 : (8388608 : Nat) = 2 ^ 23 := by decide
      have e1 : m * (2 ^ 23 * 2 ^ c) / 8388608 = m * 2 ^ c := by
        rw [e8, show m * (2 ^ 23 * 2 ^ c) = m * 2 ^ c * 2 ^ 23 by rw [Nat.mul_assoc, Nat.mul_comm (2 ^ 23)]]
        exact Nat.mul_div_cancel _ (by decide)
      have e2 : m * (2 ^ 23 * 2 ^ c) % 8388608 = 0 := by
        rw [e8, show m * (2 ^ 23 * 2 ^ c) = m * 2 ^ c * 2 ^ 23 by rw [Nat.mul_assoc, Nat.mul_comm (2 ^ 23)]]
        exact Nat.mul_mod_left _ _
      rw [e1, e2]
      show single.nearest s (2 * (m * 2 ^ c) + 0) _ = _
      rw [Nat.add_zero]
      have a1 : 2 * (m * 2 ^ c) = m * 2 ^ (c + 1) := by rw [Nat.pow_succ, Nat.mul_comm 2, Nat.mul_assoc]
      have a2 : i - (-22) - ((23 + c : Nat) : Int) - 1 = (i - 1) - ((c + 1 : Nat) : Int) := by omega
      rw [a1, a2, nearest_mul]
      have a3 : 8388608 * m = m * 2 ^ 23 := by rw [Nat.mul_comm, e8]
      have a4 : (-24 : Int) + i = (i - 1) - ((23 : Nat) : Int) := by omega
      rw [a3, a4, nearest_mul]
end Go.H

/- Rounding is monotone; sums of many terms. -/
set_option linter.unusedVariables false
namespace Go.H
open Go Ieee

theorem cut_even (s : Bool) (n d : Nat) : Toward.even.cut s n d = n / 2 ^ d + (if 2 ^ d < 2 * (n % 2 ^ d) ∨ (2 ^ d = 2 * (n % 2 ^ d) ∧ n / 2 ^ d % 2 = 1) then 1 else 0) := by
  unfold Toward.cut
  dsimp only
  have hp := Nat.two_pow_pos d
  by_cases hd : d ≤ n.log2 + 2
  · rw [Nat.min_eq_left hd, Nat.one_shiftLeft]
    congr 1
    by_cases h1 : 2 ^ d < 2 * (n % 2 ^ d)
    · rw [if_pos (.inl h1), decide_eq_true h1]; rfl
    · by_cases h2 : 2 ^ d = 2 * (n % 2 ^ d) ∧ n / 2 ^ d % 2 = 1
      · rw [if_pos (.inr h2), decide_eq_false h1, show (2 ^ d == 2 * (n % 2 ^ d)) = true from beq_iff_eq.2 h2.1, show (n / 2 ^ d % 2 == 1) = true from beq_iff_eq.2 h2.2]; rfl
      · rw [if_neg (by rintro (h | h); exact h1 h; exact h2 h), decide_eq_false h1]
        have : ((2 ^ d == 2 * (n % 2 ^ d)) && (n / 2 ^ d % 2 == 1)) = false := by
          rw [Bool.and_eq_false_iff, beq_eq_false_iff_ne, beq_eq_false_iff_ne]
          by_cases h3 : 2 ^ d = 2 * (n % 2 ^ d)
          · exact .inr fun h4 => h2 ⟨h3, h4⟩
          · exact .inl h3
        rw [this]; rfl
  · rw [Nat.min_eq_right (by omega), Nat.one_shiftLeft]
    have hl := lt_pow_log2 n
    have e4 : 2 ^ (n.log2 + 2) = 2 * 2 ^ (n.log2 + 1) := by rw [Nat.pow_succ, Nat.mul_comm]
    have hg : 2 ^ (n.log2 + 2) < 2 ^ d := Nat.pow_lt_pow_right (by decide) (by omega)
    have a1 : n / 2 ^ (n.log2 + 2) = 0 := Nat.div_eq_of_lt (by omega)
    have a2 : n % 2 ^ (n.log2 + 2) = n := Nat.mod_eq_of_lt (by omega)
    have a3 : n / 2 ^ d = 0 := Nat.div_eq_of_lt (by omega)
    have a4 : n % 2 ^ d = n := Nat.mod_eq_of_lt (by omega)
    rw [a1, a2, a3, a4, if_neg (by omega), decide_eq_false (by omega), show (2 ^ (n.log2 + 2) == 2 * n) = false from beq_eq_false_iff_ne.2 (by omega)]
    rfl

theorem cut_mono (s : Bool) {n m : Nat} (h : n ≤ m) (d : Nat) : Toward.even.cut s n d ≤ Toward.even.cut s m d := by
  rw [cut_even, cut_even]
  have hq : n / 2 ^ d ≤ m / 2 ^ d := Nat.div_le_div_right h
  by_cases hlt : n / 2 ^ d < m / 2 ^ d
  · split <;> split <;> omega
  · have he : n / 2 ^ d = m / 2 ^ d := by omega
    have d1 := Nat.div_add_mod n (2 ^ d)
    have d2 := Nat.div_add_mod m (2 ^ d)
    rw [he] at d1 ⊢
    generalize n % 2 ^ d = r1 at *
    generalize m % 2 ^ d = r2 at *
    have hr : r1 ≤ r2 := by omega
    by_cases h1 : 2 ^ d < 2 * r1 ∨ (2 ^ d = 2 * r1 ∧ m / 2 ^ d % 2 = 1)
    · have h2 : 2 ^ d < 2 * r2 ∨ (2 ^ d = 2 * r2 ∧ m / 2 ^ d % 2 = 1) := by
        rcases h1 with h1 | ⟨h1, h3⟩
        · exact .inl (by omega)
        · by_cases h4 : r1 = r2
          · subst h4; exact .inr ⟨h1, h3⟩
          · exact .inl (by omega)
      rw [if_pos h1, if_pos h2]
      exact Nat.le_refl _
    · rw [if_neg h1]
      omega

theorem log2_mono {n m : Nat} (hn : n ≠ 0) (h : n ≤ m) : n.log2 ≤ m.log2 :=
  (Nat.le_log2 (by omega)).2 (Nat.le_trans (pow_log2_le hn) h)

theorem nearest_mono (f : Format) (s : Bool) {m n : Nat} (hm : m ≠ 0) (h : m ≤ n) (p : Int) : ∃ r1 r2, f.nearest s m p = f.word s r1 ∧ f.nearest s n p = f.word s r2 ∧ r1 ≤ r2 ∧ r2 ≤ f.infRung := by
  have hn : n ≠ 0 := by omega
  unfold Format.nearest
  rw [if_neg hm, if_neg hn]
  refine ⟨_, _, rfl, rfl, ?_, Nat.min_le_right _ _⟩
  have hl := log2_mono hm h
  have key : (max (p + (m.log2 : Int) - f.fractionBits) f.leastPlace - f.leastPlace).toNat * f.binade + Toward.even.cut s (m <<< (p - max (p + (m.log2 : Int) - f.fractionBits) f.leastPlace).toNat) (max (p + (m.log2 : Int) - f.fractionBits) f.leastPlace - p).toNat ≤ (max (p + (n.log2 : Int) - f.fractionBits) f.leastPlace - f.leastPlace).toNat * f.binade + Toward.even.cut s (n <<< (p - max (p + (n.log2 : Int) - f.fractionBits) f.leastPlace).toNat) (max (p + (n.log2 : Int) - f.fractionBits) f.leastPlace - p).toNat := by
    by_cases he : max (p + (m.log2 : Int) - f.fractionBits) f.leastPlace = max (p + (n.log2 : Int) - f.fractionBits) f.leastPlace
    · rw [he]
      refine Nat.add_le_add_left (cut_mono s ?_ _) _
      rw [Nat.shiftLeft_eq, Nat.shiftLeft_eq]
      exact Nat.mul_le_mul_right _ h
    · have k1 : Toward.even.cut s (m <<< (p - max (p + (m.log2 : Int) - f.fractionBits) f.leastPlace).toNat) (max (p + (m.log2 : Int) - f.fractionBits) f.leastPlace - p).toNat ≤ 2 ^ (f.fractionBits + 1) := by
        apply cut_le_pow
        rw [Nat.shiftLeft_eq]
        refine Nat.lt_of_lt_of_le (Nat.mul_lt_mul_of_pos_right (lt_pow_log2 m) (Nat.two_pow_pos _)) ?_
        rw [← Nat.pow_add]
        apply Nat.pow_le_pow_right (by decide)
        omega
      have k2 : 2 ^ f.fractionBits ≤ Toward.even.cut s (n <<< (p - max (p + (n.log2 : Int) - f.fractionBits) f.leastPlace).toNat) (max (p + (n.log2 : Int) - f.fractionBits) f.leastPlace - p).toNat := by
        apply cut_ge_pow
        rw [Nat.shiftLeft_eq]
        refine Nat.le_trans ?_ (Nat.mul_le_mul_right _ (pow_log2_le hn))
        rw [← Nat.pow_add]
        apply Nat.pow_le_pow_right (by decide)
        omega
      have k3 : (max (p + (m.log2 : Int) - f.fractionBits) f.leastPlace - f.leastPlace).toNat + 1 ≤ (max (p + (n.log2 : Int) - f.fractionBits) f.leastPlace - f.leastPlace).toNat := by omega
      have e1 : (2 : Nat) ^ (f.fractionBits + 1) = 2 * f.binade := by rw [Nat.pow_succ, Nat.mul_comm]; rfl
      have e2 : (2 : Nat) ^ f.fractionBits = f.binade := rfl
      rw [e1] at k1
      rw [e2] at k2
      have := Nat.mul_le_mul_right f.binade k3
      rw [Nat.add_mul, Nat.one_mul] at this
      omega
  omega

/-- what a rung is worth, in units of the least place -/
def rungV (f : Format) (r : Nat) : Nat := if r < f.binade then r else (f.binade + r % f.binade) * 2 ^ (r / f.binade - 1)

theorem rungV_mono (f : Format) {a b : Nat} (h : a ≤ b) : rungV f a ≤ rungV f b := by
  have hb : 0 < f.binade := by unfold Format.binade; exact Nat.two_pow_pos _
  have big : ∀ r, f.binade ≤ r → f.binade * 2 ^ (r / f.binade - 1) ≤ rungV f r ∧ rungV f r ≤ f.binade * 2 ^ (r / f.binade) := by
    intro r hr
    unfold rungV
    rw [if_neg (by omega)]
    have hq : 1 ≤ r / f.binade := (Nat.le_div_iff_mul_le hb).2 (by omega)
    have ht := Nat.mod_lt r hb
    refine ⟨Nat.mul_le_mul_right _ (by omega), ?_⟩
    rw [show r / f.binade = (r / f.binade - 1) + 1 by omega, Nat.pow_succ, Nat.mul_comm (2 ^ _) 2, ← Nat.mul_assoc]
    exact Nat.mul_le_mul_right _ (by omega)
  by_cases h1 : b < f.binade
  · unfold rungV
    rw [if_pos h1, if_pos (by omega)]; exact h
  · by_cases h2 : a < f.binade
    · have := (big b (by omega)).1
      refine Nat.le_trans ?_ this
      unfold rungV
      rw [if_pos h2]
      refine Nat.le_trans (Nat.le_of_lt h2) ?_
      exact Nat.le_mul_of_pos_right _ (Nat.two_pow_pos _)
    · have hq : a / f.binade ≤ b / f.binade := Nat.div_le_div_right h
      by_cases he : a / f.binade = b / f.binade
      · unfold rungV
        rw [if_neg h2, if_neg h1, he]
        have d1 := Nat.div_add_mod a f.binade
        have d2 := Nat.div_add_mod b f.binade
        rw [he] at d1
        exact Nat.mul_le_mul_right _ (by omega)
      · refine Nat.le_trans (big a (by omega)).2 (Nat.le_trans ?_ (big b (by omega)).1)
        exact Nat.mul_le_mul_left _ (Nat.pow_le_pow_right (by decide) (by omega))

theorem read_rung (f : Format) (s : Bool) {r : Nat} (h : r < f.infRung) : ∃ k p, f.read (f.word s r) = .number s k p ∧ f.leastPlace ≤ p ∧ k * 2 ^ (p - f.leastPlace).toNat = rungV f r := by
  rw [read_word f s (Nat.lt_of_lt_of_le h (Nat.le_of_lt f.infRung_lt))]
  unfold rungV
  by_cases h1 : r < f.binade
  · rw [if_pos h1, if_pos h1]
    exact ⟨_, _, rfl, Int.le_refl _, by simp⟩
  · rw [if_neg h1, if_pos h, if_neg h1]
    refine ⟨_, _, rfl, by omega, ?_⟩
    congr 2
    omega

theorem read_inf (f : Format) (s : Bool) (hb : f.binade ≤ f.infRung) : f.read (f.word s f.infRung) = .infinity s := by
  rw [read_word f s f.infRung_lt, if_neg (by omega), if_neg (by omega), if_pos rfl]

/-- what is nearest to less is not more -/
theorem nearest_le (f : Format) (hb : f.binade ≤ f.infRung) (s : Bool) {m n : Nat} (hm : m ≠ 0) (h : m ≤ n) (p : Int) {k2 : Nat} {p2 : Int} (hn : f.read (f.nearest s n p) = .number s k2 p2) :
    ∃ k1 p1, f.read (f.nearest s m p) = .number s k1 p1 ∧ f.leastPlace ≤ p1 ∧ f.leastPlace ≤ p2 ∧ k1 * 2 ^ (p1 - f.leastPlace).toNat ≤ k2 * 2 ^ (p2 - f.leastPlace).toNat := by
  obtain ⟨r1, r2, e1, e2, h1, h2⟩ := nearest_mono f s hm h p
  rw [e2] at hn
  have h3 : r2 < f.infRung := by
    refine Classical.byContradiction fun hh => ?_
    have : r2 = f.infRung := by omega
    subst this
    rw [read_inf f s hb] at hn
    cases hn
  obtain ⟨k, q, a1, a2, a3⟩ := read_rung f s h3
  obtain ⟨k', q', b1, b2, b3⟩ := read_rung f s (Nat.lt_of_le_of_lt h1 h3)
  rw [hn] at a1
  cases a1
  exact ⟨k', q', by rw [e1]; exact b1, b2, a2, by rw [b3, a3]; exact rungV_mono f h1⟩

theorem read_place (f : Format) {b : Nat} {s : Bool} {m : Nat} {p : Int} (h : f.read b = .number s m p) : f.leastPlace ≤ p := by
  unfold Format.read at h
  simp only at h
  split at h
  · cases h; exact Int.le_refl _
  · split at h
    · cases h; omega
    · split at h <;> cases h

/-- at most so many times a power of two -/
def LcD (c : Nat) (q : Int) : Datum → Prop
  | .number _ m p => -1074 ≤ p ∧ m * 2 ^ (p + 1074).toNat ≤ c * 2 ^ (q + 1074).toNat
  | _ => False
def Lc (c : Nat) (q : Int) (x : Option Nat) : Prop := ∀ b, x = some b → LcD c q (double.read b)

theorem write_lc {c : Nat} {q : Int} {s : Bool} {m : Nat} {p : Int} (h : LcD c q (.number s m p)) (hc : 1 ≤ c) (hc2 : c < 2 ^ 53) (h1 : -1074 ≤ q) (h2 : q ≤ 900) : LcD c q (double.read (double.write (.number s m p))) := by
  obtain ⟨hp, hv⟩ := h
  by_cases hm : m = 0
  · subst hm
    rw [read_write_zero]
    exact ⟨by omega, by simp⟩
  · obtain ⟨r1, r2⟩ := read_exact s (m := c) (p := q) (by omega) hc2 h1 h2
    have e1 : double.nearest s m p = double.nearest s (m * 2 ^ (p + 1074).toNat) (-1074) := by
      have := nearest_mul double s m (p + 1074).toNat p
      rw [← this]
      congr 1
      omega
    have e2 : double.nearest s c q = double.nearest s (c * 2 ^ (q + 1074).toNat) (-1074) := by
      have := nearest_mul double s c (q + 1074).toNat q
      rw [← this]
      congr 1
      omega
    rw [e2] at r1
    have hmz : m * 2 ^ (p + 1074).toNat ≠ 0 := Nat.mul_ne_zero hm (by have := Nat.two_pow_pos (p + 1074).toNat; omega)
    obtain ⟨k1, p1, a1, a2, a3, a4⟩ := nearest_le double (by decide) s hmz hv (-1074) r1
    show LcD c q (double.read (double.nearest s m p))
    rw [e1, a1]
    have hL : double.leastPlace = -1074 := by decide
    rw [hL] at a2 a3 a4
    refine ⟨a2, ?_⟩
    have e3 : (p1 - -1074).toNat = (p1 + 1074).toNat := by omega
    rw [e3] at a4
    refine Nat.le_trans a4 (Nat.le_of_eq ?_)
    rw [Nat.shiftLeft_eq, Nat.mul_assoc, ← Nat.pow_add]
    congr 2
    omega

theorem LcD.mono {c d : Nat} {q : Int} {x : Datum} (h : LcD c q x) (hcd : c ≤ d) : LcD d q x := by
  cases x with
  | number s m p => exact ⟨h.1, Nat.le_trans h.2 (Nat.mul_le_mul_right _ hcd)⟩
  | infinity _ => exact h
  | nan _ _ => exact h

theorem sum_lc {c d : Nat} {q : Int} {x y z : Datum} (hx : LcD c q x) (hy : LcD d q y) (h : x.sum y = some z) : LcD (c + d) q z := by
  cases x with
  | infinity _ => exact absurd hx (by intro h; exact h)
  | nan _ _ => exact absurd hx (by intro h; exact h)
  | number s m p =>
    cases y with
    | infinity _ => exact absurd hy (by intro h; exact h)
    | nan _ _ => exact absurd hy (by intro h; exact h)
    | number t n k =>
      obtain ⟨hx1, hx2⟩ := hx
      obtain ⟨hy1, hy2⟩ := hy
      unfold Datum.sum at h
      dsimp only at h
      have hz := Option.some.inj h
      rw [← hz]
      have hmag : (signed s m (p - min p k).toNat + signed t n (k - min p k).toNat).natAbs ≤ m * 2 ^ (p - min p k).toNat + n * 2 ^ (k - min p k).toNat := by
        have := Int.natAbs_add_le (signed s m (p - min p k).toNat) (signed t n (k - min p k).toNat)
        rw [natAbs_signed, natAbs_signed] at this
        exact this
      refine ⟨by omega, ?_⟩
      calc (signed s m (p - min p k).toNat + signed t n (k - min p k).toNat).natAbs * 2 ^ (min p k + 1074).toNat ≤ (m * 2 ^ (p - min p k).toNat + n * 2 ^ (k - min p k).toNat) * 2 ^ (min p k + 1074).toNat := Nat.mul_le_mul_right _ hmag
        _ = m * 2 ^ (p + 1074).toNat + n * 2 ^ (k + 1074).toNat := by
          rw [Nat.add_mul, Nat.mul_assoc, Nat.mul_assoc, ← Nat.pow_add, ← Nat.pow_add]
          congr 3 <;> omega
        _ ≤ c * 2 ^ (q + 1074).toNat + d * 2 ^ (q + 1074).toNat := Nat.add_le_add hx2 hy2
        _ = _ := by rw [Nat.add_mul]

theorem Lc.add {c d : Nat} {q : Int} {x y : Option Nat} (hx : Lc c q x) (hy : Lc d q y) (hc : 1 ≤ c + d) (hc2 : c + d < 2 ^ 53) (h1 : -1074 ≤ q) (h2 : q ≤ 900) : Lc (c + d) q (fop .add .f64 x y) := by
  intro b hb
  obtain ⟨a, a', rfl, rfl, hf⟩ := fop_some hb
  obtain ⟨z, hz, rfl⟩ := Option.map_eq_some_iff.1 (show ((double.read a).sum (double.read a')).map double.write = some b from hf)
  have := sum_lc (hx a rfl) (hy a' rfl) hz
  cases z with
  | number s m p => exact write_lc this hc hc2 h1 h2
  | infinity _ => exact absurd this (by intro h; exact h)
  | nan _ _ => exact absurd this (by intro h; exact h)

theorem Le.lc {e : Int} {x : Option Nat} (h : Le e x) : Lc 1 e x := by
  intro b hb
  have hl := h b hb
  cases hr : double.read b with
  | number s m p =>
    rw [hr] at hl
    have hp := read_place double hr
    have hL : double.leastPlace = -1074 := by decide
    rw [hL] at hp
    refine ⟨hp, ?_⟩
    rcases hl with hl | ⟨hl1, hl2⟩
    · rw [hl, Nat.zero_mul]; exact Nat.zero_le _
    · rw [Nat.one_mul]
      calc m * 2 ^ (p + 1074).toNat ≤ 2 ^ (e - p).toNat * 2 ^ (p + 1074).toNat := Nat.mul_le_mul_right _ hl2
        _ = 2 ^ (e + 1074).toNat := by rw [← Nat.pow_add]; congr 1; omega
  | infinity s => rw [hr] at hl; exact hl
  | nan s t => rw [hr] at hl; exact hl

theorem Lc.le {c k : Nat} {q : Int} {x : Option Nat} (h : Lc c q x) (hc : c ≤ 2 ^ k) (hq : -1074 ≤ q) : Le (q + k) x := by
  intro b hb
  have hl := h b hb
  cases hr : double.read b with
  | number s m p =>
    rw [hr] at hl
    obtain ⟨hp, hv⟩ := hl
    by_cases hm : m = 0
    · exact .inl hm
    · refine .inr ?_
      have h1 : m * 2 ^ (p + 1074).toNat ≤ 2 ^ (q + k + 1074).toNat := by
        refine Nat.le_trans hv (Nat.le_trans (Nat.mul_le_mul_right _ hc) ?_)
        rw [← Nat.pow_add]
        exact Nat.pow_le_pow_right (by decide) (by omega)
      have h2 : (p + 1074).toNat ≤ (q + k + 1074).toNat := by
        refine Classical.byContradiction fun hh => ?_
        have : 2 ^ (q + k + 1074).toNat < 2 ^ (p + 1074).toNat := Nat.pow_lt_pow_right (by decide) (by omega)
        have := Nat.le_mul_of_pos_left (2 ^ (p + 1074).toNat) (show 0 < m by omega)
        omega
      refine ⟨by omega, ?_⟩
      have h3 : 2 ^ (q + k + 1074).toNat = 2 ^ (q + k - p).toNat * 2 ^ (p + 1074).toNat := by rw [← Nat.pow_add]; congr 1; omega
      rw [h3] at h1
      exact Nat.le_of_mul_le_mul_right h1 (Nat.two_pow_pos _)
  | infinity s => rw [hr] at hl; exact hl
  | nan s t => rw [hr] at hl; exact hl
end Go.H

/- A number of single precision times a share of 1: not greater in absolute value. -/
set_option linter.unusedVariables false
namespace Go.H
open Go Ieee

theorem single_parts {b : Nat} {s : Bool} {m : Nat} {i : Int} (h : single.read b = .number s m i) : (m < 8388608 ∧ i = -149) ∨ (8388608 ≤ m ∧ m < 16777216 ∧ -149 ≤ i ∧ i ≤ 104) := by
  unfold Format.read at h
  dsimp only at h
  have hB : single.binade = 8388608 := by decide
  have hI : single.infRung = 2139095040 := by decide
  have hL : single.leastPlace = -149 := by decide
  rw [hB, hI, hL] at h
  generalize b % single.signWeight = r at h
  split at h
  · cases h; exact .inl ⟨by omega, rfl⟩
  · split at h
    · cases h; exact .inr ⟨by omega, by omega, by omega, by omega⟩
    · split at h <;> cases h

theorem cut_nought (s : Bool) (n : Nat) : Toward.even.cut s n 0 = n := by
  rw [cut_even, Nat.pow_zero, Nat.div_one, Nat.mod_one, if_neg (by omega)]
  rfl

theorem single_exact {b : Nat} {s : Bool} {m : Nat} {i : Int} (h : single.read b = .number s m i) (hm : m ≠ 0) : ∃ r, single.nearest s m i = single.word s r ∧ r < single.infRung ∧ rungV single r = m * 2 ^ (i + 149).toNat := by
  have hB : single.binade = 8388608 := by decide
  have hI : single.infRung = 2139095040 := by decide
  have hL : single.leastPlace = -149 := by decide
  have hF : single.fractionBits = 23 := by decide
  unfold Format.nearest
  rw [if_neg hm]
  dsimp only
  rw [hL, hF, hB, hI]
  rcases single_parts h with ⟨h1, h2⟩ | ⟨h1, h2, h3, h4⟩
  · subst h2
    have hl : m.log2 < 23 := (Nat.log2_lt hm).2 (by have : (2 : Nat) ^ 23 = 8388608 := by decide
                                                    omega)
    have e : max ((-149 : Int) + (m.log2 : Int) - ((23 : Nat) : Int)) (-149) = -149 := by omega
    rw [e]
    refine ⟨m, ?_, by omega, ?_⟩
    · have e1 : ((-149 : Int) - -149).toNat = 0 := by decide
      rw [e1, cut_nought, Nat.shiftLeft_zero, Nat.zero_mul, Nat.zero_add, Nat.min_eq_left (by omega)]
    · unfold rungV
      rw [hB, if_pos h1]
      simp
  · have hl : m.log2 = 23 := log2_of (by have : (2 : Nat) ^ 23 = 8388608 := by decide
                                         omega) (by have : (2 : Nat) ^ (23 + 1) = 16777216 := by decide
                                                    omega)
    rw [hl]
    have e : max (i + ((23 : Nat) : Int) - ((23 : Nat) : Int)) (-149) = i := by omega
    rw [e]
    obtain ⟨k, hk⟩ := Int.eq_ofNat_of_zero_le (show 0 ≤ i + 149 by omega)
    have e0 : (i - i).toNat = 0 := by omega
    have e1 : (i - -149).toNat = k := by omega
    rw [e0, e1, cut_nought, Nat.shiftLeft_zero]
    have hk2 : k ≤ 253 := by omega
    refine ⟨k * 8388608 + m, by rw [Nat.min_eq_left (by omega)], by omega, ?_⟩
    unfold rungV
    rw [hB, if_neg (by omega)]
    have d1 : (k * 8388608 + m) % 8388608 = m - 8388608 := by omega
    have d2 : (k * 8388608 + m) / 8388608 = k + 1 := by omega
    rw [d1, d2, Nat.add_sub_cancel' h1]
    congr 2
    omega

theorem word_inj {f : Format} {s : Bool} {a b : Nat} (h : f.word s a = f.word s b) : a = b := by
  unfold Format.word at h
  split at h <;> omega

/-- at most 1, not below nought -/
def ShareB (q : Nat) : Prop := ∃ n j, single.read q = .number false n j ∧ j ≤ 0 ∧ n ≤ 2 ^ (0 - j).toNat

theorem order_zero {s : Bool} {k : Nat} {p : Int} : (Datum.number s k p).order (.number false 0 (-149)) = some (compare (signed s k (p - min p (-149)).toNat) 0) := by
  simp only [Datum.order]
  congr 2
  unfold signed
  simp

theorem share_less {b q : Nat} (hq : ShareB q) : ((fcmp .gtr .f32 (fop .mul .f32 (some b) (some q)) (some b) && fcmp .gtr .f32 (fop .mul .f32 (some b) (some q)) (some 0)) = false) ∧ ((fcmp .lss .f32 (fop .mul .f32 (some b) (some q)) (some b) && fcmp .lss .f32 (fop .mul .f32 (some b) (some q)) (some 0)) = false) := by
  obtain ⟨n, j, hr, hj, hn⟩ := hq
  have r0 : single.read 0 = .number false 0 (-149) := by decide
  have e1 : ∀ x y : Int, (some (compare x y) == some Ordering.gt) = decide (y < x) := cmp_gtr
  have e2 : ∀ x y : Int, (some (compare x y) == some Ordering.lt) = decide (x < y) := cmp_lss
  have hf : fop .mul .f32 (some b) (some q) = ((single.read b).product (single.read q)).map single.write := rfl
  rw [hf, hr]
  cases hb : single.read b with
  | nan s t => exact ⟨rfl, rfl⟩
  | infinity s =>
    simp only [Datum.product]
    by_cases h0 : n = 0
    · rw [if_pos h0]; exact ⟨rfl, rfl⟩
    · rw [if_neg h0]
      simp only [Option.map_some, Bool.xor_false]
      have hw : single.read (single.write (.infinity s)) = .infinity s := by cases s <;> decide
      have g1 : fcmp .gtr .f32 (some (single.write (.infinity s))) (some b) = false := by
        show ((single.read (single.write (.infinity s))).order (single.read b) == some .gt) = false
        rw [hw, hb]; cases s <;> rfl
      have g2 : fcmp .lss .f32 (some (single.write (.infinity s))) (some b) = false := by
        show ((single.read (single.write (.infinity s))).order (single.read b) == some .lt) = false
        rw [hw, hb]; cases s <;> rfl
      rw [g1, g2]; exact ⟨rfl, rfl⟩
  | number s m i =>
    simp only [Datum.product, Option.map_some, Bool.xor_false]
    by_cases h0 : m * n = 0
    · have hw : single.read (single.write (.number s (m * n) (i + j))) = .number s 0 (-149) := by
        rw [h0]
        show single.read (single.nearest s 0 (i + j)) = _
        unfold Format.nearest
        rw [if_pos rfl]
        cases s <;> decide
      have g1 : fcmp .gtr .f32 (some (single.write (.number s (m * n) (i + j)))) (some 0) = false := by
        show ((single.read (single.write (.number s (m * n) (i + j)))).order (single.read 0) == some .gt) = false
        rw [hw, r0]; cases s <;> rfl
      have g2 : fcmp .lss .f32 (some (single.write (.number s (m * n) (i + j)))) (some 0) = false := by
        show ((single.read (single.write (.number s (m * n) (i + j)))).order (single.read 0) == some .lt) = false
        rw [hw, r0]; cases s <;> rfl
      rw [g1, g2, Bool.and_false, Bool.and_false]; exact ⟨rfl, rfl⟩
    · have hm : m ≠ 0 := by intro h; rw [h, Nat.zero_mul] at h0; exact h0 rfl
      have hle : m * n ≤ m * 2 ^ (0 - j).toNat := Nat.mul_le_mul_left _ hn
      obtain ⟨r1, r2, w1, w2, h1, h2⟩ := nearest_mono single s h0 hle (i + j)
      obtain ⟨r, x1, x2, x3⟩ := single_exact hb hm
      have e3 : single.nearest s (m * 2 ^ (0 - j).toNat) (i + j) = single.nearest s m i := by
        have := nearest_mul single s m (0 - j).toNat i
        rw [← this]
        congr 1
        omega
      rw [e3, x1] at w2
      have hrr := word_inj w2
      subst hrr
      obtain ⟨k, p, y1, y2, y3⟩ := read_rung single s (Nat.lt_of_le_of_lt h1 x2)
      have hv := rungV_mono single h1
      rw [← y3, x3] at hv
      have hL : single.leastPlace = -149 := by decide
      rw [hL] at y2 hv
      have hw : single.read (single.write (.number s (m * n) (i + j))) = .number s k p := by
        show single.read (single.nearest s (m * n) (i + j)) = _
        rw [w1]; exact y1
      have hi : -149 ≤ i := by rcases single_parts hb with ⟨_, h⟩ | ⟨_, _, h, _⟩ <;> omega
      have hval : k * 2 ^ (p - min p i).toNat ≤ m * 2 ^ (i - min p i).toNat := by
        have a1 : k * 2 ^ (p - -149).toNat = k * 2 ^ (p - min p i).toNat * 2 ^ (min p i + 149).toNat := by
          rw [Nat.mul_assoc, ← Nat.pow_add]; congr 2; omega
        have a2 : m * 2 ^ (i + 149).toNat = m * 2 ^ (i - min p i).toNat * 2 ^ (min p i + 149).toNat := by
          rw [Nat.mul_assoc, ← Nat.pow_add]; congr 2; omega
        rw [a1, a2] at hv
        exact Nat.le_of_mul_le_mul_right hv (Nat.two_pow_pos _)
      have o1 : (single.read (single.write (.number s (m * n) (i + j)))).order (single.read b) = some (compare (signed s k (p - min p i).toNat) (signed s m (i - min p i).toNat)) := by
        rw [hw, hb]; rfl
      have o2 : (single.read (single.write (.number s (m * n) (i + j)))).order (single.read 0) = some (compare (signed s k (p - min p (-149)).toNat) 0) := by
        rw [hw, r0]; exact order_zero
      have c1 : fcmp .gtr .f32 (some (single.write (.number s (m * n) (i + j)))) (some b) = decide (signed s m (i - min p i).toNat < signed s k (p - min p i).toNat) := by
        show ((single.read _).order (single.read b) == some .gt) = _
        rw [o1, e1]
      have c2 : fcmp .gtr .f32 (some (single.write (.number s (m * n) (i + j)))) (some 0) = decide (0 < signed s k (p - min p (-149)).toNat) := by
        show ((single.read _).order (single.read 0) == some .gt) = _
        rw [o2, e1]
      have c3 : fcmp .lss .f32 (some (single.write (.number s (m * n) (i + j)))) (some b) = decide (signed s k (p - min p i).toNat < signed s m (i - min p i).toNat) := by
        show ((single.read _).order (single.read b) == some .lt) = _
        rw [o1, e2]
      have c4 : fcmp .lss .f32 (some (single.write (.number s (m * n) (i + j)))) (some 0) = decide (signed s k (p - min p (-149)).toNat < 0) := by
        show ((single.read _).order (single.read 0) == some .lt) = _
        rw [o2, e2]
      rw [c1, c2, c3, c4, signed_eq, signed_eq, signed_eq]
      have p1 := Int.natCast_nonneg (k * 2 ^ (p - min p (-149)).toNat)
      have p2 : ((k * 2 ^ (p - min p i).toNat : Nat) : Int) ≤ ((m * 2 ^ (i - min p i).toNat : Nat) : Int) := Int.ofNat_le.2 hval
      cases s with
      | false =>
        simp only [Bool.false_eq_true, if_false]
        rw [decide_eq_false (Int.not_lt.2 p2), decide_eq_false (Int.not_lt.2 p1)]
        exact ⟨rfl, by simp⟩
      | true =>
        simp only [if_true]
        rw [decide_eq_false (show ¬ (0 < -((k * 2 ^ (p - min p (-149)).toNat : Nat) : Int)) by omega), decide_eq_false (show ¬ (-((k * 2 ^ (p - min p i).toNat : Nat) : Int) < -((m * 2 ^ (i - min p i).toNat : Nat) : Int)) by omega)]
        exact ⟨by simp, rfl⟩
end Go.H
