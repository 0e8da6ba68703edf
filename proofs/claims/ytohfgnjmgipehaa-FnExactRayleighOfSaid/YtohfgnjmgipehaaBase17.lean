/- Regions that draw their order, where a copy may come late: behind the first of the operations that follow one another. -/
import Derived.Test.YtohfgnjmgipehaaBase16
set_option linter.unusedVariables false
namespace Go.H
open Go

section
variable {P : Program} {N : Nat} {Q : Exit → Fr → Heap → Prop} {ops : List Oper}

/-- the tail's operations follow one another, and wait for all but the late ones -/
def tailL (ops : List Oper) (nb : Nat) (lates : List Nat) : Bool :=
  (List.range (ops.length - nb)).all fun k => (depsOf ops (nb + k)).all (fun e => decide (e < nb + k)) &&
    (List.range (nb + k)).all (fun i => (closeDown ops (nb + k) (depsOf ops (nb + k))).contains i || lates.contains i)

/-- a late operation has nothing to do with the others that may be open -/
def freeL (ops : List Oper) (nb : Nat) (lates : List Nat) (i : Nat) : Bool :=
  match ops[i]? with
  | none => false
  | some oi => (List.range ops.length).all fun j => j == i || (decide (j < nb) && !lates.contains j) || match ops[j]? with
      | some oj => oj.after.any (fun e => Region.binds .any e && e.on == i) || oi.apart ops.toArray oj
      | none => true

/-- an operation that gives its value in each world and turns nothing -/
def OpY (P : Program) (φ : Fr) (o : Oper) (u : Value) : Prop := ∀ (a : Act), (∀ x v, φ.ev x = some v → a.eval x = v) → ∀ w, (execOp a.eval o).run P w = .ok (.value u) w

def LateOK (P : Program) (ops : List Oper) (φ : Fr) (h : Heap) (S : Nat → Value → Heap → Prop) (Bl : List (Option (Value → List (Option Nat)))) (Ll : List (Option (Nat × (Value → Value)))) (dl : List (List Nat)) (i : Nat) : Prop :=
  ∃ ds o, dl[i]? = some ds ∧ ops[i]? = some o ∧ o.guard = none ∧ ds.all (fun j => (depsOf ops i).contains j) = true ∧ ∀ h', Ext h h' → Dep ops S h' ds φ (fun φ' => ∃ u, OpY P φ' o u ∧ KL (nthL Ll i) φ' (KM (nthB Bl i) (S i) h') u h')
inductive LatesOK (P : Program) (ops : List Oper) (φ : Fr) (h : Heap) (S : Nat → Value → Heap → Prop) (Bl : List (Option (Value → List (Option Nat)))) (Ll : List (Option (Nat × (Value → Value)))) (dl : List (List Nat)) : List Nat → Prop
  | nil : LatesOK P ops φ h S Bl Ll dl []
  | cons {i : Nat} {l : List Nat} : LateOK P ops φ h S Bl Ll dl i → LatesOK P ops φ h S Bl Ll dl l → LatesOK P ops φ h S Bl Ll dl (i :: l)
theorem LatesOK.mem {φ : Fr} {h : Heap} {S : Nat → Value → Heap → Prop} {Bl : List (Option (Value → List (Option Nat)))} {Ll : List (Option (Nat × (Value → Value)))} {dl : List (List Nat)} {l : List Nat} (H : LatesOK P ops φ h S Bl Ll dl l) : ∀ {i : Nat}, i ∈ l → LateOK P ops φ h S Bl Ll dl i := by
  induction H with
  | nil => intro i hi; cases hi
  | cons h1 _ ih =>
    intro i hi
    rcases List.mem_cons.1 hi with rfl | hi
    · exact h1
    · exact ih hi

theorem late_case {Bl : List (Option (Value → List (Option Nat)))} {Ll : List (Option (Nat × (Value → Value)))} {dl : List (List Nat)} {Sl : List (Value → Heap → Prop)} {φ : Fr} {h : Heap} {w0 : World} {Qw : Exit → Act → World → Prop}
    (hB : bodyOK N ops dl.length = true) {lates : List Nat} (hφ : clearB ops dl.length φ = true) (stable : StableL Ext Sl) (hTl : lates.all (fun i => decide (i < dl.length)) = true) (hns : Region.noSelect ops.toArray = true) (hfr : lates.all (fun i => freeL ops dl.length lates i) = true) (hQp : ∀ c a w, ¬ Qw (.panic c) a w)
    (hLn : linksOK ops Ll dl.length = true) (lsteps : ∀ i, i ∈ lates → LateOK P ops φ h (nthS Sl) Bl Ll dl i)
    {m : Nat} {listed : Array Bool} {a : Act} {w : World} (hc : cnt listed.toList = m + 1) (I : InvM Bl Ll N ops dl.length (nthS Sl) φ h w0 listed a w) (hall : ¬ ∀ i, i < dl.length → listed.getD i false = true)
    (hlate : ∀ i, i < dl.length → lates.contains i = false → listed.getD i false = true)
    (ih : ∀ (listed : Array Bool) (a : Act) (w : World), cnt listed.toList = m → InvM Bl Ll N ops dl.length (nthS Sl) φ h w0 listed a w → wpAny P .any ops.toArray Qw m listed a w) : wpAny P .any ops.toArray Qw (m + 1) listed a w := by
  have hne : ∃ i, i < dl.length ∧ listed.getD i false = false ∧ ∀ k, k < i → listed.getD k false = true := by
    have hex : ∃ i, i < dl.length ∧ listed.getD i false = false := by
      refine Classical.byContradiction fun hno => hall fun i hi => ?_
      cases hb : listed.getD i false with
      | true => rfl
      | false => exact absurd ⟨i, hi, hb⟩ hno
    obtain ⟨i, hi⟩ := hex
    induction i using Nat.strongRecOn with
    | _ i ihi =>
      by_cases hk : ∀ k, k < i → listed.getD k false = true
      · exact ⟨i, hi.1, hi.2, hk⟩
      · have : ∃ k, k < i ∧ listed.getD k false = false := by
          refine Classical.byContradiction fun hno => hk fun k hki => ?_
          cases hb : listed.getD k false with
          | true => rfl
          | false => exact absurd ⟨k, hki, hb⟩ hno
        obtain ⟨k, hki, hkf⟩ := this
        exact ihi k hki ⟨by omega, hkf⟩
  obtain ⟨i, hib, hf0, hlow⟩ := hne
  obtain ⟨o, d, ho, hd, hdN, hdep0, _⟩ := body_spec hB hib
  have hil : i < ops.length := (List.getElem?_eq_some_iff.1 ho).1
  have hls : i < listed.size := by rw [I.inv.len]; exact hil
  have hil' : i ∈ lates := by
    cases hcl : lates.contains i with
    | true => simpa using hcl
    | false => have := hlate i hib hcl; rw [hf0] at this; cases this
  have h3 : ∀ e ∈ depsOf ops i, listed.getD e false = true := fun e he => hlow e (hdep0 e he)
  have hr0 : i ∈ Region.ready .any ops.toArray listed := ready_of (by
    simp only [hls, Array.getD_eq_getD_getElem?, Array.getElem?_eq_getElem, Option.getD_some] at hf0 ⊢; exact hf0) hil h3
  obtain ⟨ds, o', hds, ho', hgd, hsub, hstep⟩ := lsteps i hil'
  rw [ho] at ho'
  cases ho'
  have hokφ : Ok N φ a := ⟨I.inv.defers, I.inv.size, I.inv.base⟩
  obtain ⟨ψ, hψ, u, hY, hK⟩ := Dep.run I.inv ds φ _ (fun j hj => h3 j (by simpa using List.all_eq_true.1 hsub j hj)) hokφ (hstep w.heap I.inv.ext)
  have hcn : cnt (listed.setIfInBounds i true).toList = m := by
    have hfl : listed.toList[i]? = some false := by
      simp only [hls, Array.getD_eq_getD_getElem?, Array.getElem?_eq_getElem, Option.getD_some] at hf0
      simp [hls, hf0]
    have := cnt_set listed.toList i hfl
    rw [Array.toList_setIfInBounds]
    omega
  have ho2 : ops.toArray[i]? = some o := by simpa using ho
  refine wpAny_take ho2 hns ?_ (by simpa using hr0) (fun c a w hq => absurd hq (hQp c _ w)) (.inl ⟨by simp [Region.wanted, hgd], hY a (fun x v => hψ.eval)⟩) (ih _ _ _ hcn (I.put hB hφ (fun k _ _ _ => stable.nth k) hib hf0 ho h3 I.inv.same hψ hLn hK))
  -- free of the others
  have hfi := List.all_eq_true.1 hfr i hil'
  unfold freeL at hfi
  rw [ho] at hfi
  unfold Region.free
  rw [ho2]
  simp only at hfi ⊢
  rw [List.all_eq_true] at hfi ⊢
  intro j hj
  have hjl : j < ops.length := by simpa using hj
  have h1 := hfi j (by simpa using hjl)
  have e2 : ops.toArray[j]? = ops[j]? := by simp
  rw [e2]
  by_cases hnl : (decide (j < dl.length) && !lates.contains j) = true
  · simp only [Bool.and_eq_true, decide_eq_true_eq, Bool.not_eq_true'] at hnl
    have h5 := hlate j hnl.1 hnl.2
    have h6 := getD_true_of h5
    rw [h6]
    simp
  · have hnl' : (decide (j < dl.length) && !lates.contains j) = false := by simpa using hnl
    rw [hnl', Bool.or_false] at h1
    rw [Bool.or_eq_true] at h1 ⊢
    rcases h1 with h1 | h1
    · exact .inl (by rw [h1]; rfl)
    · exact .inr h1

theorem tail_anyL {nb : Nat} {lates : List Nat} (hT : tailL ops nb lates = true) (hTl : lates.all (fun i => decide (i < nb)) = true) (Qw : Exit → Act → World → Prop) : ∀ (m k : Nat) (listed : Array Bool) (a : Act) (w : World), nb ≤ k → k + m = ops.length → listed.size = ops.length → Upto k listed → Down ops listed →
    wpList P ops.toArray Qw (ops.drop k) a w → wpAny P .any ops.toArray Qw m listed a w := by
  intro m
  induction m with
  | zero =>
    intro k listed a w hk hm hs hu _ H
    have hn : Region.ready .any ops.toArray listed = [] := by
      refine List.eq_nil_iff_forall_not_mem.2 fun i hi => ?_
      obtain ⟨h1, h2, _⟩ := ready_deps hi
      have := (hu i (by omega)).2 (by omega)
      have := getD_true_of this
      rw [h1] at this; cases this
    refine ⟨hn, ?_⟩
    rw [List.drop_eq_nil_of_le (by omega)] at H
    exact H
  | succ m ih =>
    intro k listed a w hk hm hs hu hd H
    have hT' := List.all_eq_true.1 hT (k - nb) (by simp; omega)
    rw [show nb + (k - nb) = k from by omega, Bool.and_eq_true] at hT'
    have hdep : ∀ e ∈ depsOf ops k, listed.getD e false = true := fun e he => by
      have := List.all_eq_true.1 hT'.1 e he
      have := of_decide_eq_true this
      exact (hu e (by omega)).2 this
    have hk0 : listed.getD k true = false := by
      have hlt : k < listed.size := by omega
      have h1 : ¬ listed.getD k false = true := fun h => by have := (hu k hlt).1 h; omega
      simp [hlt] at h1 ⊢
      exact h1
    have hr : k ∈ Region.ready .any ops.toArray listed := ready_of hk0 (by omega) hdep
    refine ⟨fun h => (by rw [h] at hr; cases hr), fun i hi => ?_⟩
    obtain ⟨h1, h2, h3⟩ := ready_deps hi
    have hik : i = k := by
      have hi1 : ¬ i < k := fun hlt => by
        have := getD_true_of ((hu i (by omega)).2 hlt)
        rw [h1] at this; cases this
      have hi2 : ¬ k < i := fun hlt => by
        have hTi := List.all_eq_true.1 hT (i - nb) (by simp; omega)
        rw [show nb + (i - nb) = i from by omega, Bool.and_eq_true] at hTi
        have := List.all_eq_true.1 hTi.2 k (by simp; omega)
        have hlk : lates.contains k = false := by
          cases hc : lates.contains k with
          | false => rfl
          | true =>
            have := List.all_eq_true.1 hTl k (by simpa using hc)
            simp at this
            omega
        rw [hlk, Bool.or_false] at this
        have := closeDown_listed hd i (depsOf ops i) h3 k (by simpa using this)
        have := (hu k (by omega)).1 this
        omega
      omega
    subst hik
    rw [List.drop_eq_getElem_cons h2] at H
    unfold wpOp
    have hl' : ops.toArray[i]? = some ops[i] := by simp
    rw [hl']
    simp only [wpList] at H
    have next : ∀ a w, wpList P ops.toArray Qw (ops.drop (i + 1)) a w → wpAny P .any ops.toArray Qw m (listed.setIfInBounds i true) a w := by
      intro a w H
      refine ih (i + 1) _ a w (by omega) (by omega) (by simp [hs]) ?_ (down_set hd h3) H
      intro j hj
      have hj' : j < listed.size := by simpa using hj
      by_cases hij : i = j
      · subst hij; simp [hj']
      · have := hu j hj'
        simp only [Array.getD_eq_getD_getElem?, Array.getElem?_setIfInBounds_ne hij] at this ⊢
        rw [this]; omega
    by_cases hw : Region.wanted ops[i] (yielded ops.toArray a.tmps) = true
    · rw [if_pos hw] at H
      simp only [hw, if_true]
      exact H.imp (Oper.wp_mono next) id
    · rw [if_neg hw] at H
      simp only [hw]
      exact next _ _ H

theorem body_anyL {Bl : List (Option (Value → List (Option Nat)))} {Ll : List (Option (Nat × (Value → Value)))} {dl : List (List Nat)} {Sl : List (Value → Heap → Prop)} {φ : Fr} {h : Heap} {w0 : World} {Qw : Exit → Act → World → Prop}
    (hB : bodyOK N ops dl.length = true) {lates : List Nat} (hT : tailL ops dl.length lates = true) (hTl : lates.all (fun i => decide (i < dl.length)) = true) (hns : Region.noSelect ops.toArray = true) (hfr : lates.all (fun i => freeL ops dl.length lates i) = true) (hQp : ∀ c a w, ¬ Qw (.panic c) a w) (hφ : clearB ops dl.length φ = true) (hln : dl.length ≤ ops.length)
    (stable : StableL Ext Sl) (steps : StepsM P ops φ h (nthS Sl) Bl Ll 0 dl ops) (hLn : linksOK ops Ll dl.length = true) (lsteps : ∀ i, i ∈ lates → LateOK P ops φ h (nthS Sl) Bl Ll dl i)
    (fin' : ∀ listed a w, InvM Bl Ll N ops dl.length (nthS Sl) φ h w0 listed a w → (∀ i, i < dl.length → listed.getD i false = true) → wpList P ops.toArray Qw (ops.drop dl.length) a w) :
    ∀ (m : Nat) (listed : Array Bool) (a : Act) (w : World), cnt listed.toList = m → InvM Bl Ll N ops dl.length (nthS Sl) φ h w0 listed a w → wpAny P .any ops.toArray Qw m listed a w := by
  intro m
  induction m with
  | zero =>
    intro listed a w hc I
    have hall : ∀ i, i < ops.length → listed.getD i false = true := fun i hi => by
      have := cnt_zero hc i (by simpa [I.inv.len] using hi)
      have : listed[i]? = some true := by simpa using this
      simp [this]
    refine tail_anyL hT hTl Qw 0 ops.length listed a w hln (by omega) I.inv.len (fun i hi => ⟨fun _ => by have := I.inv.len; omega, fun _ => hall i (by have := I.inv.len; omega)⟩) I.inv.down ?_
    have := fin' listed a w I (fun i hi => hall i (by omega))
    rcases Nat.lt_or_ge dl.length ops.length with hlt | hge
    · have h1 := I.inv.notail dl.length (Nat.le_refl _)
      rw [hall _ hlt] at h1; cases h1
    · rw [List.drop_eq_nil_of_le hge] at this
      rw [List.drop_eq_nil_of_le (Nat.le_refl _)]
      exact this
  | succ m ih =>
    intro listed a w hc I
    by_cases hall : ∀ i, i < dl.length → listed.getD i false = true
    · have hu : Upto dl.length listed := by
        intro i _
        refine ⟨fun h1 => ?_, hall i⟩
        rcases Nat.lt_or_ge i dl.length with h | h
        · exact h
        · have := I.inv.notail i h
          rw [this] at h1
          cases h1
      have hm : dl.length + (m + 1) = ops.length := by
        have hsplit : cnt listed.toList = ops.length - dl.length := by
          have e : listed.toList = List.replicate dl.length true ++ List.replicate (ops.length - dl.length) false := by
            refine List.ext_getElem? fun i => ?_
            rcases Nat.lt_or_ge i ops.length with hi | hi
            · have hsz : i < listed.size := by rw [I.inv.len]; exact hi
              rcases Nat.lt_or_ge i dl.length with h | h
              · have := hall i h
                simp only [hsz, Array.getD_eq_getD_getElem?, Array.getElem?_eq_getElem, Option.getD_some] at this
                simp [List.getElem?_append, h, hsz, this]
              · have := I.inv.notail i h
                simp only [hsz, Array.getD_eq_getD_getElem?, Array.getElem?_eq_getElem, Option.getD_some] at this
                rw [List.getElem?_append_right (by simpa using h)]
                simp only [Array.getElem?_toList, hsz, Array.getElem?_eq_getElem, this, List.length_replicate, List.getElem?_replicate]
                rw [if_pos (by omega)]
            · have hsz : ¬ i < listed.size := by rw [I.inv.len]; omega
              rw [List.getElem?_eq_none (by simp; omega), List.getElem?_eq_none (by simp; omega)]
          rw [e]
          simp [cnt, List.count_append, List.count_replicate]
        omega
      exact tail_anyL hT hTl Qw (m + 1) dl.length listed a w (Nat.le_refl _) hm I.inv.len hu I.inv.down (fin' listed a w I hall)
    · by_cases hlate : ∀ i, i < dl.length → lates.contains i = false → listed.getD i false = true
      · exact late_case hB hφ stable hTl hns hfr hQp hLn lsteps hc I hall hlate ih
      have hne : ∃ i, i < dl.length ∧ listed.getD i false = false ∧ ∀ k, k < i → listed.getD k false = true := by
        have hex : ∃ i, i < dl.length ∧ listed.getD i false = false := by
          refine Classical.byContradiction fun hno => hall fun i hi => ?_
          cases hb : listed.getD i false with
          | true => rfl
          | false => exact absurd ⟨i, hi, hb⟩ hno
        obtain ⟨i, hi⟩ := hex
        induction i using Nat.strongRecOn with
        | _ i ihi =>
          by_cases hk : ∀ k, k < i → listed.getD k false = true
          · exact ⟨i, hi.1, hi.2, hk⟩
          · have : ∃ k, k < i ∧ listed.getD k false = false := by
              refine Classical.byContradiction fun hno => hk fun k hki => ?_
              cases hb : listed.getD k false with
              | true => rfl
              | false => exact absurd ⟨k, hki, hb⟩ hno
            obtain ⟨k, hki, hkf⟩ := this
            exact ihi k hki ⟨by omega, hkf⟩
      obtain ⟨i0, hi0, hf0, hlow⟩ := hne
      obtain ⟨o0, d0, ho0, _, _, hdep0, _⟩ := body_spec hB hi0
      have hi0l : i0 < ops.length := (List.getElem?_eq_some_iff.1 ho0).1
      have hr0 : i0 ∈ Region.ready .any ops.toArray listed := ready_of (by
        have : i0 < listed.size := by rw [I.inv.len]; exact hi0l
        simp only [this, Array.getD_eq_getD_getElem?, Array.getElem?_eq_getElem, Option.getD_some] at hf0 ⊢; exact hf0) hi0l (fun e he => hlow e (hdep0 e he))
      refine ⟨fun h => (by rw [h] at hr0; cases hr0), fun i hi => ?_⟩
      obtain ⟨h1, h2, h3⟩ := ready_deps hi
      have hib : i < dl.length := by
        refine Classical.byContradiction fun hge => hlate fun k hk hkl => ?_
        have hTi := List.all_eq_true.1 hT (i - dl.length) (by simp; omega)
        rw [show dl.length + (i - dl.length) = i from by omega, Bool.and_eq_true] at hTi
        have := List.all_eq_true.1 hTi.2 k (by simp; omega)
        rw [hkl, Bool.or_false] at this
        exact closeDown_listed I.inv.down i (depsOf ops i) h3 k (by simpa using this)
      obtain ⟨o, d, ho, hd, hdN, _, _⟩ := body_spec hB hib
      obtain ⟨o', ho', hsub, hstep⟩ := steps.nth i dl[i] (List.getElem?_eq_getElem hib)
      rw [ho] at ho'
      cases ho'
      simp only [Nat.zero_add] at hsub hstep
      have hokφ : Ok N φ a := ⟨I.inv.defers, I.inv.size, I.inv.base⟩
      obtain ⟨ψ, hψ, hG⟩ := Dep.run I.inv dl[i] φ _ (fun j hj => h3 j (by simpa using List.all_eq_true.1 hsub j hj)) hokφ (hstep w.heap I.inv.ext)
      have hcn : cnt (listed.setIfInBounds i true).toList = m := by
        have hlt : i < listed.size := by rw [I.inv.len]; exact h2
        have hfl : listed.toList[i]? = some false := by
          simp only [hlt, Array.getD_eq_getD_getElem?, Array.getElem?_eq_getElem, Option.getD_some] at h1
          simp [hlt, h1]
        have := cnt_set listed.toList i hfl
        rw [Array.toList_setIfInBounds]
        omega
      have hun : listed.getD i false = false := by
        have hlt : i < listed.size := by rw [I.inv.len]; exact h2
        simp only [hlt, Array.getD_eq_getD_getElem?, Array.getElem?_eq_getElem, Option.getD_some] at h1 ⊢
        exact h1
      have next : ∀ v w', Same w0 w' → KL (nthL Ll i) ψ (KM (nthB Bl i) (nthS Sl i) w.heap) v w'.heap → wpAny P .any ops.toArray Qw m (listed.setIfInBounds i true) (a.put o.dst v) w' := fun v w' hs hk =>
        ih _ _ _ hcn (I.put hB hφ (fun k _ _ _ => stable.nth k) hib hun ho h3 hs hψ hLn hk)
      unfold wpOp
      have ho2 : ops.toArray[i]? = some o := by simpa using ho
      rw [ho2]
      simp only
      unfold GuardOK at hG
      cases hg : o.guard with
      | none =>
        rw [hg] at hG
        rw [if_pos (by simp [Region.wanted, hg])]
        exact .inl (OpV.wp hG hψ rfl I.inv.same fun v w' hs hk => next v w' hs hk)
      | some gw =>
        obtain ⟨j, want⟩ := gw
        rw [hg] at hG
        simp only at hG
        cases hdj : dstOf ops j with
        | none => rw [hdj] at hG; exact hG.elim
        | some t =>
          rw [hdj] at hG
          rcases hG with ⟨b, hb, hyes, hno⟩ | ⟨hu, hK⟩
          case inr =>
            have hy : yielded ops.toArray a.tmps j = none := by
              unfold yielded
              have : (ops.toArray[j]?).bind (·.dst) = some t := by simpa [dstOf] using hdj
              rw [this]
              simp [hψ.slot t _ hu, undef]
            rw [if_neg (by simp [Region.wanted, hg, hy])]
            exact next undef w I.inv.same hK
          have hy : yielded ops.toArray a.tmps j = some b := by
            unfold yielded
            have : (ops.toArray[j]?).bind (·.dst) = some t := by simpa [dstOf] using hdj
            rw [this]
            simp [hψ.slot t _ hb]
          by_cases hbw : b = want
          · rw [if_pos (by simp [Region.wanted, hg, hy, hbw])]
            exact .inl (OpV.wp (hyes hbw) hψ rfl I.inv.same fun v w' hs hk => next v w' hs hk)
          · rw [if_neg (by simp [Region.wanted, hg, hy, hbw])]
            exact next undef w I.inv.same (hno hbw)

theorem W.regionL {id : Nat} {φ : Fr} {h : Heap} (Sl : List (Value → Heap → Prop)) (Bl : List (Option (Value → List (Option Nat)))) (Ll : List (Option (Nat × (Value → Value)))) (lates : List Nat) (dl : List (List Nat)) (js : List Nat) (hm : P.follows .mixedOrders = true)
    (hB : bodyOK N ops dl.length = true) (hT : (tailL ops dl.length lates && lates.all (fun i => decide (i < dl.length)) && Region.noSelect ops.toArray && lates.all (fun i => freeL ops dl.length lates i)) = true) (hQp : ∀ c φ h, ¬ Q (.panic c) φ h) (hφ : clearB ops dl.length φ = true) (hjs : js.all (fun j => decide (j < dl.length)) = true) (hnd : nodupB js = true) (hLn : linksOK ops Ll dl.length = true) (hln : Nat.ble dl.length ops.length = true)
    (stable : StableL Ext Sl) (steps : StepsM P ops φ h (nthS Sl) Bl Ll 0 dl ops)
    (lsteps : LatesOK P ops φ h (nthS Sl) Bl Ll dl lates)
    (fin : ∀ h', Ext h h' → DepM ops (nthS Sl) Bl h' js φ [] (fun φ' acc => acc.Pairwise Apt → (∀ i d f e v u, i ∈ js → nthL Ll i = some (d, f) → dstOf ops i = some e → φ'.get e = some v → φ'.get d = some u → v = f u) → RL P N ops.toArray Q (ops.drop dl.length) φ' h')) : W P N (.region id ops.toArray true) Q φ h := by
  intro w0 a w hs hw ho
  have hl := Nat.le_of_ble_eq_true hln
  simp only [Bool.and_eq_true] at hT
  obtain ⟨⟨⟨hT, hTl⟩, hns⟩, hfr⟩ := hT
  refine wp_region_any hm (body_anyL (Bl := Bl) (Ll := Ll) (w0 := w0) (h := h) hB hT hTl hns hfr (fun c a w hq => by obtain ⟨_, ψ, _, hq⟩ := hq; exact hQp c ψ _ hq) hφ hl stable steps hLn (fun i hi => lsteps.mem hi) ?_ _ _ _ _ ?_ ?_)
  · intro listed a' w' I hall
    have hnl : ∀ j ∈ js, listed.getD j false = true := fun j hj => hall j (of_decide_eq_true (List.all_eq_true.1 hjs j hj))
    obtain ⟨ψ, acc, hψ, hpw, hG⟩ := DepM.run I js φ [] _ [] hnl (nodupB_spec hnd) (by simp) (by simp [AccOK]) ⟨I.inv.defers, I.inv.size, I.inv.base⟩ (fin w'.heap I.inv.ext)
    refine hG hpw (fun i d f e v u hi hL hd hv hu => ?_) w0 a' w' I.inv.same rfl hψ
    obtain ⟨x, hx1, hx2⟩ := I.link i d f e v (hnl i hi) hL hd (hψ.slot e v hv)
    have := hψ.slot d u hu
    rw [hx1] at this
    cases this
    exact hx2
  · simp [cnt]
  · refine ⟨⟨ho.defers, ho.size, hs.trans (Same.drawn ..), by show Ext h w.heap; rw [hw]; exact Ext.refl _, by simp, fun i hi => by
      by_cases hlt : i < ops.length <;> simp [hlt] at hi, fun i _ => by
      by_cases hlt : i < ops.length <;> simp [hlt], fun i d hi => by
      by_cases hlt : i < ops.length <;> simp [hlt] at hi, ho.slot⟩, fun i d v hi => by
      by_cases hlt : i < ops.length <;> simp [hlt] at hi, fun i j d e v u _ hi => by
      by_cases hlt : i < ops.length <;> simp [hlt] at hi, fun i d f e v hi => by
      by_cases hlt : i < ops.length <;> simp [hlt] at hi⟩

theorem opy_move {φ : Fr} {o : Oper} {x : Operand} {u : Value} (ho : o.op = .move x) (hx : φ.ev x = some u) : OpY P φ o u := by
  intro a hev w; simp [execOp, ho, hev x _ hx]
theorem opy_assign {φ : Fr} {o : Oper} {x : Operand} {u : Value} (ho : o.op = .assign x) (hx : φ.ev x = some u) : OpY P φ o u := by
  intro a hev w; simp [execOp, ho, hev x _ hx]
theorem opy_extract {φ : Fr} {o : Oper} {x : Operand} {n : Nat} {vs : List Value} {u : Value} (ho : o.op = .extract x n) (hx : φ.ev x = some (.tuple vs.toArray)) (hu : vs[n]? = some u) : OpY P φ o u := by
  intro a hev w; simp [execOp, ho, hev x _ hx, Instr.extract, hu]
end
end Go.H
