/- Regions that draw their order and make several things: what is made lies apart. -/
import Derived.Test.YtohfgnjmgipehaaBase14
set_option linter.unusedVariables false
namespace Go.H
open Go

def nthB : List (Option (Value → List (Option Nat))) → Nat → Option (Value → List (Option Nat))
  | [], _ => none
  | b :: _, 0 => b
  | _ :: r, n + 1 => nthB r n

def blkB : Option (Value → List (Option Nat)) → Value → List (Option Nat)
  | none, _ => []
  | some f, v => f v

def Apt (x y : List (Option Nat)) : Prop := ∀ b, some b ∈ x → some b ∉ y

/-- what an operation of such a region gives -/
def KM : Option (Value → List (Option Nat)) → (Value → Heap → Prop) → Heap → Value → Heap → Prop
  | none, S, h, v, h' => Ext h h' ∧ S v h'
  | some B, S, h, v, h' => Ext h h' ∧ S v h' ∧ ∀ b, some b ∈ B v → h.size ≤ b ∧ b < h'.size

theorem KM.ext {B : Option (Value → List (Option Nat))} {S : Value → Heap → Prop} {h : Heap} {v : Value} {h' : Heap} (H : KM B S h v h') : Ext h h' := by cases B <;> exact H.1
theorem KM.val {B : Option (Value → List (Option Nat))} {S : Value → Heap → Prop} {h : Heap} {v : Value} {h' : Heap} (H : KM B S h v h') : S v h' := by
  cases B with
  | none => exact H.2
  | some B => exact H.2.1
theorem KM.new {B : Option (Value → List (Option Nat))} {S : Value → Heap → Prop} {h : Heap} {v : Value} {h' : Heap} (H : KM B S h v h') : ∀ b, some b ∈ blkB B v → h.size ≤ b ∧ b < h'.size := by
  cases B with
  | none => intro b hb; cases hb
  | some B => exact H.2.2

/-- an operation's value that is a part of another one's -/
def nthL : List (Option (Nat × (Value → Value))) → Nat → Option (Nat × (Value → Value))
  | [], _ => none
  | b :: _, 0 => b
  | _ :: r, n + 1 => nthL r n

def KL (L : Option (Nat × (Value → Value))) (φ : Fr) (K : Value → Heap → Prop) : Value → Heap → Prop :=
  match L with
  | none => K
  | some (d, f) => fun v h => K v h ∧ ∃ u, φ.get d = some u ∧ v = f u

theorem KL.fst {L : Option (Nat × (Value → Value))} {φ : Fr} {K : Value → Heap → Prop} {v : Value} {h : Heap} (H : KL L φ K v h) : K v h := by
  cases L with
  | none => exact H
  | some p => exact H.1
theorem KL.snd {L : Option (Nat × (Value → Value))} {φ : Fr} {K : Value → Heap → Prop} {v : Value} {h : Heap} (H : KL L φ K v h) {d : Nat} {f : Value → Value} (hl : L = some (d, f)) : ∃ u, φ.get d = some u ∧ v = f u := by
  subst hl; exact H.2

def StepsM (P : Program) (ops : List Oper) (φ : Fr) (h : Heap) (S : Nat → Value → Heap → Prop) (Bl : List (Option (Value → List (Option Nat)))) (Ll : List (Option (Nat × (Value → Value)))) : Nat → List (List Nat) → List Oper → Prop
  | _, [], _ => True
  | i, ds :: dr, o :: r =>
    (ds.all (fun j => (depsOf ops i).contains j) = true ∧ ∀ h', Ext h h' → Dep ops S h' ds φ (fun φ' => GuardOK P ops φ' o h' (KL (nthL Ll i) φ' (KM (nthB Bl i) (S i) h')))) ∧
    StepsM P ops φ h S Bl Ll (i + 1) dr r
  | _, _ :: _, [] => False

theorem StepsM.nth {P : Program} {ops : List Oper} {φ : Fr} {h : Heap} {S : Nat → Value → Heap → Prop} {Bl : List (Option (Value → List (Option Nat)))} {Ll : List (Option (Nat × (Value → Value)))} :
    ∀ {i : Nat} {dl : List (List Nat)} {l : List Oper}, StepsM P ops φ h S Bl Ll i dl l → ∀ k ds, dl[k]? = some ds →
      ∃ o, l[k]? = some o ∧ ds.all (fun j => (depsOf ops (i + k)).contains j) = true ∧ ∀ h', Ext h h' → Dep ops S h' ds φ (fun φ' => GuardOK P ops φ' o h' (KL (nthL Ll (i + k)) φ' (KM (nthB Bl (i + k)) (S (i + k)) h')))
  | _, [], _, _, k, ds, hk => by simp at hk
  | i, ds :: dr, o :: r, H, 0, ds', hk => by
    simp only [List.getElem?_cons_zero, Option.some.injEq] at hk
    subst hk
    exact ⟨o, rfl, H.1.1, H.1.2⟩
  | i, ds :: dr, o :: r, H, k + 1, ds', hk => by
    obtain ⟨o', h1, h2, h3⟩ := StepsM.nth H.2 k ds' (by simpa using hk)
    have e : i + 1 + k = i + (k + 1) := by omega
    rw [e] at h2 h3
    exact ⟨o', by simpa using h1, h2, h3⟩
  | _, _ :: _, [], H, _, _, _ => H.elim

def DepM (ops : List Oper) (S : Nat → Value → Heap → Prop) (Bl : List (Option (Value → List (Option Nat)))) (h : Heap) : List Nat → Fr → List (List (Option Nat)) → (Fr → List (List (Option Nat)) → Prop) → Prop
  | [], φ, acc, K => K φ acc
  | j :: js, φ, acc, K => match dstOf ops j with
    | some d => ∀ v, S j v h → DepM ops S Bl h js ((d, v) :: φ) (blkB (nthB Bl j) v :: acc) K
    | none => DepM ops S Bl h js φ acc K

theorem DepM.nil {ops : List Oper} {S : Nat → Value → Heap → Prop} {Bl : List (Option (Value → List (Option Nat)))} {h : Heap} {φ : Fr} {acc : List (List (Option Nat))} {K : Fr → List (List (Option Nat)) → Prop} (H : K φ acc) : DepM ops S Bl h [] φ acc K := H

def nodupB : List Nat → Bool
  | [] => true
  | j :: js => !js.contains j && nodupB js
theorem nodupB_spec : ∀ {l : List Nat}, nodupB l = true → l.Nodup
  | [], _ => List.nodup_nil
  | j :: js, h => by
    unfold nodupB at h
    rw [Bool.and_eq_true] at h
    exact List.nodup_cons.2 ⟨by simpa using h.1, nodupB_spec h.2⟩

section
variable {P : Program} {N : Nat} {Q : Exit → Fr → Heap → Prop} {ops : List Oper}

/-- a link's source is an operation that it waits for -/
def linksOK (ops : List Oper) (Ll : List (Option (Nat × (Value → Value)))) (nb : Nat) : Bool :=
  (List.range nb).all fun i => match nthL Ll i with
    | none => true
    | some (d, _) => (depsOf ops i).any fun j => decide (j < nb) && dstOf ops j == some d

structure InvM (Bl : List (Option (Value → List (Option Nat)))) (Ll : List (Option (Nat × (Value → Value)))) (N : Nat) (ops : List Oper) (nb : Nat) (S : Nat → Value → Heap → Prop) (φ : Fr) (h : Heap) (w0 : World) (listed : Array Bool) (a : Act) (w : World) : Prop where
  inv : Inv Ext N ops nb S φ h w0 listed a w
  low : ∀ i d v, listed.getD i false = true → dstOf ops i = some d → a.tmps[d]? = some v → ∀ b, some b ∈ blkB (nthB Bl i) v → b < w.heap.size
  apart : ∀ i j d e v u, i ≠ j → listed.getD i false = true → listed.getD j false = true → dstOf ops i = some d → dstOf ops j = some e → a.tmps[d]? = some v → a.tmps[e]? = some u → Apt (blkB (nthB Bl i) v) (blkB (nthB Bl j) u)
  link : ∀ i d f e v, listed.getD i false = true → nthL Ll i = some (d, f) → dstOf ops i = some e → a.tmps[e]? = some v → ∃ u, a.tmps[d]? = some u ∧ v = f u

/-- the blocks told so far are those of listed operations, none of 'js' -/
def AccOK (Bl : List (Option (Value → List (Option Nat)))) (ops : List Oper) (listed : Array Bool) (a : Act) (done : List Nat) (acc : List (List (Option Nat))) : Prop :=
  ∀ x ∈ acc, ∃ i d v, i ∈ done ∧ listed.getD i false = true ∧ dstOf ops i = some d ∧ a.tmps[d]? = some v ∧ x = blkB (nthB Bl i) v

theorem DepM.run {Bl : List (Option (Value → List (Option Nat)))} {Ll : List (Option (Nat × (Value → Value)))} {S : Nat → Value → Heap → Prop} {w0 : World} {nb : Nat} {φ : Fr} {h : Heap} {listed : Array Bool} {a : Act} {w : World} (I : InvM Bl Ll N ops nb S φ h w0 listed a w) :
    ∀ (js : List Nat) (ψ : Fr) (acc : List (List (Option Nat))) (K : Fr → List (List (Option Nat)) → Prop) (done : List Nat), (∀ j ∈ js, listed.getD j false = true) → js.Nodup → (∀ j ∈ js, j ∉ done) → AccOK Bl ops listed a done acc ∧ acc.Pairwise Apt → Ok N ψ a → DepM ops S Bl w.heap js ψ acc K → ∃ ψ' acc', Ok N ψ' a ∧ acc'.Pairwise Apt ∧ K ψ' acc'
  | [], ψ, acc, _, _, _, _, _, ha, ho, H => ⟨ψ, acc, ho, ha.2, H⟩
  | j :: js, ψ, acc, K, done, hj, hnd, hdn, ha, ho, H => by
    unfold DepM at H
    obtain ⟨hn1, hn2⟩ := List.nodup_cons.1 hnd
    cases hd : dstOf ops j with
    | none =>
      rw [hd] at H
      exact DepM.run I js ψ acc K done (fun k hk => hj k (List.mem_cons_of_mem _ hk)) hn2 (fun k hk => hdn k (List.mem_cons_of_mem _ hk)) ha ho H
    | some d =>
      rw [hd] at H
      have hjl := hj j (List.mem_cons_self ..)
      obtain ⟨v, h1, h2⟩ := I.inv.vals j d hjl hd
      refine DepM.run I js ((d, v) :: ψ) _ K (j :: done) (fun k hk => hj k (List.mem_cons_of_mem _ hk)) hn2 (fun k hk hm => ?_) ⟨?_, ?_⟩ ⟨ho.defers, ho.size, fun t u ht => ?_⟩ (H v h2)
      · rcases List.mem_cons.1 hm with rfl | hm
        · exact hn1 hk
        · exact hdn k (List.mem_cons_of_mem _ hk) hm
      · intro x hx
        rcases List.mem_cons.1 hx with rfl | hx
        · exact ⟨j, d, v, List.mem_cons_self .., hjl, hd, h1, rfl⟩
        · obtain ⟨i, e, u, g1, g2⟩ := ha.1 x hx
          exact ⟨i, e, u, List.mem_cons_of_mem _ g1, g2⟩
      · refine List.pairwise_cons.2 ⟨fun x hx => ?_, ha.2⟩
        obtain ⟨i, e, u, g1, g2, g3, g4, rfl⟩ := ha.1 x hx
        exact I.apart j i d e v u (fun e => hdn j (List.mem_cons_self ..) (e ▸ g1)) hjl g2 hd g3 h1 g4
      · simp only [Fr.get] at ht
        cases hb : Nat.beq d t with
        | true =>
          rw [hb] at ht
          simp only [cond_true, Option.some.injEq] at ht
          rw [← Nat.eq_of_beq_eq_true hb, ← ht]; exact h1
        | false => rw [hb] at ht; exact ho.slot t u ht

theorem InvM.put {Bl : List (Option (Value → List (Option Nat)))} {Ll : List (Option (Nat × (Value → Value)))} {S : Nat → Value → Heap → Prop} {w0 : World} {nb : Nat} {φ : Fr} {h : Heap} {listed : Array Bool} {a : Act} {w : World} (I : InvM Bl Ll N ops nb S φ h w0 listed a w)
    (hB : bodyOK N ops nb = true) (hφ : clearB ops nb φ = true) (hst : ∀ i v h h', S i v h → Ext h h' → S i v h')
    {i : Nat} (hi : i < nb) (hun : listed.getD i false = false) {o : Oper} (ho : ops[i]? = some o) (hde : ∀ e ∈ depsOf ops i, listed.getD e false = true) {v : Value} {w' : World} (hs : Same w0 w') {ψ : Fr} (hψ : Ok N ψ a) (hLn : linksOK ops Ll nb = true) (hkl : KL (nthL Ll i) ψ (KM (nthB Bl i) (S i) w.heap) v w'.heap) :
    InvM Bl Ll N ops nb S φ h w0 (listed.setIfInBounds i true) (a.put o.dst v) w' := by
  obtain ⟨o', d, ho', hd, hdN, _, huniq⟩ := body_spec hB hi
  rw [ho] at ho'
  cases ho'
  have hdi : dstOf ops i = some d := by simp [dstOf, ho, hd]
  have hk := hkl.fst
  have hI := I.inv.put Pre.ext hB hφ hst hi ho hde hs hk.ext hk.val
  rw [hd] at hI ⊢
  have hnew := hk.new
  have hsz := hk.ext.size
  -- what a listed operation's slot holds
  have same : ∀ k e u, k ≠ i → (listed.setIfInBounds i true).getD k false = true → dstOf ops k = some e → (a.put (some d) v).tmps[e]? = some u → listed.getD k false = true ∧ a.tmps[e]? = some u := by
    intro k e u hki hk' hke hu
    have hk2 : listed.getD k false = true := by simpa [Array.getElem?_setIfInBounds_ne (Ne.symm hki)] using hk'
    have hkn : k < nb := by
      rcases Nat.lt_or_ge k nb with h | h
      · exact h
      · have := I.inv.notail k h; rw [this] at hk2; cases hk2
    have hne : d ≠ e := fun x => huniq k hkn hki (x ▸ hke)
    exact ⟨hk2, by simpa [Act.put, Array.getElem?_setIfInBounds_ne hne] using hu⟩
  have self : ∀ e u, dstOf ops i = some e → (a.put (some d) v).tmps[e]? = some u → u = v := by
    intro e u he hu
    rw [hdi] at he
    cases he
    have : d < a.tmps.size := by rw [I.inv.size]; exact hdN
    simp [Act.put, this] at hu
    exact hu.symm
  refine ⟨hI, fun k e u hk' hke hu b hb => ?_, fun k m e g u x hne hk' hm' hke hmg hu hx => ?_, fun k q f e u hk' hL hke hu => ?_⟩
  · by_cases hki : k = i
    · subst hki
      obtain rfl := self e u hke hu
      exact (hnew b hb).2
    · obtain ⟨h1, h2⟩ := same k e u hki hk' hke hu
      have := I.low k e u h1 hke h2 b hb
      omega
  · by_cases hki : k = i
    · subst hki
      obtain rfl := self e u hke hu
      obtain ⟨h1, h2⟩ := same m g x (Ne.symm hne) hm' hmg hx
      intro b hb hb'
      have := I.low m g x h1 hmg h2 b hb'
      have := (hnew b hb).1
      omega
    · obtain ⟨h1, h2⟩ := same k e u hki hk' hke hu
      by_cases hmi : m = i
      · subst hmi
        obtain rfl := self g x hmg hx
        intro b hb hb'
        have := I.low k e u h1 hke h2 b hb
        have := (hnew b hb').1
        omega
      · obtain ⟨h3, h4⟩ := same m g x hmi hm' hmg hx
        exact I.apart k m e g u x hne h1 h3 hke hmg h2 h4
  · -- a link
    have hkn : k < nb := by
      rcases Nat.lt_or_ge k nb with h | h
      · exact h
      · have h1 := I.inv.notail k h
        by_cases hki : i = k
        · omega
        · rw [Array.getD_eq_getD_getElem?, Array.getElem?_setIfInBounds_ne hki, ← Array.getD_eq_getD_getElem?, h1] at hk'; cases hk'
    have hsrc := List.all_eq_true.1 hLn k (by simpa using hkn)
    rw [hL] at hsrc
    obtain ⟨j, hjd, hjb⟩ := List.any_eq_true.1 hsrc
    simp only [Bool.and_eq_true, decide_eq_true_eq, beq_iff_eq] at hjb
    by_cases hki : k = i
    · subst hki
      obtain rfl := self e u hke hu
      obtain ⟨x, hx1, hx2⟩ := hkl.snd hL
      have hne : d ≠ q := by
        intro hdq
        subst hdq
        -- the source is another operation
        by_cases hjk : j = k
        · subst hjk
          have h0 := hde j hjd
          have := (body_spec hB hi)
          obtain ⟨_, _, _, _, _, hlt, _⟩ := this
          have := hlt j hjd
          omega
        · exact huniq j hjb.1 hjk hjb.2
      refine ⟨x, ?_, hx2⟩
      have := hψ.slot q x hx1
      simpa [Act.put, Array.getElem?_setIfInBounds_ne hne] using this
    · obtain ⟨h1, h2⟩ := same k e u hki hk' hke hu
      obtain ⟨x, hx1, hx2⟩ := I.link k q f e u h1 hL hke h2
      have hjl := I.inv.down k h1 j hjd
      have hne : d ≠ q := by
        intro hdq
        subst hdq
        by_cases hji : j = i
        · subst hji
          have hlt : e < a.tmps.size := (Array.getElem?_eq_some_iff.1 h2).1
          exact absurd hjl (by rw [hun]; decide)
        · exact huniq j hjb.1 hji hjb.2
      exact ⟨x, by simpa [Act.put, Array.getElem?_setIfInBounds_ne hne] using hx1, hx2⟩

theorem body_anyM {Bl : List (Option (Value → List (Option Nat)))} {Ll : List (Option (Nat × (Value → Value)))} {dl : List (List Nat)} {Sl : List (Value → Heap → Prop)} {φ : Fr} {h : Heap} {w0 : World} {Qw : Exit → Act → World → Prop}
    (hB : bodyOK N ops dl.length = true) (hT : tailOK ops dl.length = true) (hφ : clearB ops dl.length φ = true) (hln : dl.length ≤ ops.length)
    (stable : StableL Ext Sl) (steps : StepsM P ops φ h (nthS Sl) Bl Ll 0 dl ops) (hLn : linksOK ops Ll dl.length = true)
    (fin' : ∀ listed a w, InvM Bl Ll N ops dl.length (nthS Sl) φ h w0 listed a w → (∀ i, i < dl.length → listed.getD i false = true) → wpList P ops.toArray Qw (ops.drop dl.length) a w) :
    ∀ (m : Nat) (listed : Array Bool) (a : Act) (w : World), cnt listed.toList = m → InvM Bl Ll N ops dl.length (nthS Sl) φ h w0 listed a w → wpAny P .any ops.toArray Qw m listed a w := by
  intro m
  induction m with
  | zero =>
    intro listed a w hc I
    have hall : ∀ i, i < ops.length → listed.getD i false = true := fun i hi => by
      have := cnt_zero hc i (by simpa [I.inv.len] using hi)
      have : listed[i]? = some true := by simpa using this
      simp [this]
    refine tail_any hT Qw 0 ops.length listed a w hln (by omega) I.inv.len (fun i hi => ⟨fun _ => by have := I.inv.len; omega, fun _ => hall i (by have := I.inv.len; omega)⟩) I.inv.down ?_
    have := fin' listed a w I (fun i hi => hall i (by omega))
    rcases Nat.lt_or_ge dl.length ops.length with hlt | hge
    · have h1 := I.inv.notail dl.length (Nat.le_refl _)
      rw [hall _ hlt] at h1; cases h1
    · rw [List.drop_eq_nil_of_le hge] at this
      rw [List.drop_eq_nil_of_le (Nat.le_refl _)]
      exact this
  | succ m ih =>
    intro listed a w hc I
    by_cases hall : ∀ i, i < dl.length → listed.getD i false = true
    · have hu : Upto dl.length listed := by
        intro i _
        refine ⟨fun h1 => ?_, hall i⟩
        rcases Nat.lt_or_ge i dl.length with h | h
        · exact h
        · have := I.inv.notail i h
          rw [this] at h1
          cases h1
      have hm : dl.length + (m + 1) = ops.length := by
        have hsplit : cnt listed.toList = ops.length - dl.length := by
          have e : listed.toList = List.replicate dl.length true ++ List.replicate (ops.length - dl.length) false := by
            refine List.ext_getElem? fun i => ?_
            rcases Nat.lt_or_ge i ops.length with hi | hi
            · have hsz : i < listed.size := by rw [I.inv.len]; exact hi
              rcases Nat.lt_or_ge i dl.length with h | h
              · have := hall i h
                simp only [hsz, Array.getD_eq_getD_getElem?, Array.getElem?_eq_getElem, Option.getD_some] at this
                simp [List.getElem?_append, h, hsz, this]
              · have := I.inv.notail i h
                simp only [hsz, Array.getD_eq_getD_getElem?, Array.getElem?_eq_getElem, Option.getD_some] at this
                rw [List.getElem?_append_right (by simpa using h)]
                simp only [Array.getElem?_toList, hsz, Array.getElem?_eq_getElem, this, List.length_replicate, List.getElem?_replicate]
                rw [if_pos (by omega)]
            · have hsz : ¬ i < listed.size := by rw [I.inv.len]; omega
              rw [List.getElem?_eq_none (by simp; omega), List.getElem?_eq_none (by simp; omega)]
          rw [e]
          simp [cnt, List.count_append, List.count_replicate]
        omega
      exact tail_any hT Qw (m + 1) dl.length listed a w (Nat.le_refl _) hm I.inv.len hu I.inv.down (fin' listed a w I hall)
    · have hne : ∃ i, i < dl.length ∧ listed.getD i false = false ∧ ∀ k, k < i → listed.getD k false = true := by
        have hex : ∃ i, i < dl.length ∧ listed.getD i false = false := by
          refine Classical.byContradiction fun hno => hall fun i hi => ?_
          cases hb : listed.getD i false with
          | true => rfl
          | false => exact absurd ⟨i, hi, hb⟩ hno
        obtain ⟨i, hi⟩ := hex
        induction i using Nat.strongRecOn with
        | _ i ihi =>
          by_cases hk : ∀ k, k < i → listed.getD k false = true
          · exact ⟨i, hi.1, hi.2, hk⟩
          · have : ∃ k, k < i ∧ listed.getD k false = false := by
              refine Classical.byContradiction fun hno => hk fun k hki => ?_
              cases hb : listed.getD k false with
              | true => rfl
              | false => exact absurd ⟨k, hki, hb⟩ hno
            obtain ⟨k, hki, hkf⟩ := this
            exact ihi k hki ⟨by omega, hkf⟩
      obtain ⟨i0, hi0, hf0, hlow⟩ := hne
      obtain ⟨o0, d0, ho0, _, _, hdep0, _⟩ := body_spec hB hi0
      have hi0l : i0 < ops.length := (List.getElem?_eq_some_iff.1 ho0).1
      have hr0 : i0 ∈ Region.ready .any ops.toArray listed := ready_of (by
        have : i0 < listed.size := by rw [I.inv.len]; exact hi0l
        simp only [this, Array.getD_eq_getD_getElem?, Array.getElem?_eq_getElem, Option.getD_some] at hf0 ⊢; exact hf0) hi0l (fun e he => hlow e (hdep0 e he))
      refine ⟨fun h => (by rw [h] at hr0; cases hr0), fun i hi => ?_⟩
      obtain ⟨h1, h2, h3⟩ := ready_deps hi
      have hib : i < dl.length := by
        refine Classical.byContradiction fun hge => ?_
        have hTi := List.all_eq_true.1 hT (i - dl.length) (by simp; omega)
        rw [show dl.length + (i - dl.length) = i from by omega, Bool.and_eq_true] at hTi
        have := List.all_eq_true.1 hTi.2 i0 (by simp; omega)
        have := closeDown_listed I.inv.down i (depsOf ops i) h3 i0 (by simpa using this)
        rw [hf0] at this; cases this
      obtain ⟨o, d, ho, hd, hdN, _, _⟩ := body_spec hB hib
      obtain ⟨o', ho', hsub, hstep⟩ := steps.nth i dl[i] (List.getElem?_eq_getElem hib)
      rw [ho] at ho'
      cases ho'
      simp only [Nat.zero_add] at hsub hstep
      have hokφ : Ok N φ a := ⟨I.inv.defers, I.inv.size, I.inv.base⟩
      obtain ⟨ψ, hψ, hG⟩ := Dep.run I.inv dl[i] φ _ (fun j hj => h3 j (by simpa using List.all_eq_true.1 hsub j hj)) hokφ (hstep w.heap I.inv.ext)
      have hcn : cnt (listed.setIfInBounds i true).toList = m := by
        have hlt : i < listed.size := by rw [I.inv.len]; exact h2
        have hfl : listed.toList[i]? = some false := by
          simp only [hlt, Array.getD_eq_getD_getElem?, Array.getElem?_eq_getElem, Option.getD_some] at h1
          simp [hlt, h1]
        have := cnt_set listed.toList i hfl
        rw [Array.toList_setIfInBounds]
        omega
      have hun : listed.getD i false = false := by
        have hlt : i < listed.size := by rw [I.inv.len]; exact h2
        simp only [hlt, Array.getD_eq_getD_getElem?, Array.getElem?_eq_getElem, Option.getD_some] at h1 ⊢
        exact h1
      have next : ∀ v w', Same w0 w' → KL (nthL Ll i) ψ (KM (nthB Bl i) (nthS Sl i) w.heap) v w'.heap → wpAny P .any ops.toArray Qw m (listed.setIfInBounds i true) (a.put o.dst v) w' := fun v w' hs hk =>
        ih _ _ _ hcn (I.put hB hφ (fun k _ _ _ => stable.nth k) hib hun ho h3 hs hψ hLn hk)
      unfold wpOp
      have ho2 : ops.toArray[i]? = some o := by simpa using ho
      rw [ho2]
      simp only
      unfold GuardOK at hG
      cases hg : o.guard with
      | none =>
        rw [hg] at hG
        rw [if_pos (by simp [Region.wanted, hg])]
        exact .inl (OpV.wp hG hψ rfl I.inv.same fun v w' hs hk => next v w' hs hk)
      | some gw =>
        obtain ⟨j, want⟩ := gw
        rw [hg] at hG
        simp only at hG
        cases hdj : dstOf ops j with
        | none => rw [hdj] at hG; exact hG.elim
        | some t =>
          rw [hdj] at hG
          rcases hG with ⟨b, hb, hyes, hno⟩ | ⟨hu, hK⟩
          case inr =>
            have hy : yielded ops.toArray a.tmps j = none := by
              unfold yielded
              have : (ops.toArray[j]?).bind (·.dst) = some t := by simpa [dstOf] using hdj
              rw [this]
              simp [hψ.slot t _ hu, undef]
            rw [if_neg (by simp [Region.wanted, hg, hy])]
            exact next undef w I.inv.same hK
          have hy : yielded ops.toArray a.tmps j = some b := by
            unfold yielded
            have : (ops.toArray[j]?).bind (·.dst) = some t := by simpa [dstOf] using hdj
            rw [this]
            simp [hψ.slot t _ hb]
          by_cases hbw : b = want
          · rw [if_pos (by simp [Region.wanted, hg, hy, hbw])]
            exact .inl (OpV.wp (hyes hbw) hψ rfl I.inv.same fun v w' hs hk => next v w' hs hk)
          · rw [if_neg (by simp [Region.wanted, hg, hy, hbw])]
            exact next undef w I.inv.same (hno hbw)

theorem W.regionM {id : Nat} {φ : Fr} {h : Heap} (Sl : List (Value → Heap → Prop)) (Bl : List (Option (Value → List (Option Nat)))) (Ll : List (Option (Nat × (Value → Value)))) (dl : List (List Nat)) (js : List Nat) (hm : P.follows .mixedOrders = true)
    (hB : bodyOK N ops dl.length = true) (hT : tailOK ops dl.length = true) (hφ : clearB ops dl.length φ = true) (hjs : js.all (fun j => decide (j < dl.length)) = true) (hnd : nodupB js = true) (hLn : linksOK ops Ll dl.length = true) (hln : Nat.ble dl.length ops.length = true)
    (stable : StableL Ext Sl) (steps : StepsM P ops φ h (nthS Sl) Bl Ll 0 dl ops)
    (fin : ∀ h', Ext h h' → DepM ops (nthS Sl) Bl h' js φ [] (fun φ' acc => acc.Pairwise Apt → (∀ i d f e v u, i ∈ js → nthL Ll i = some (d, f) → dstOf ops i = some e → φ'.get e = some v → φ'.get d = some u → v = f u) → RL P N ops.toArray Q (ops.drop dl.length) φ' h')) : W P N (.region id ops.toArray true) Q φ h := by
  intro w0 a w hs hw ho
  have hl := Nat.le_of_ble_eq_true hln
  refine wp_region_any hm (body_anyM (Bl := Bl) (Ll := Ll) (w0 := w0) (h := h) hB hT hφ hl stable steps hLn ?_ _ _ _ _ ?_ ?_)
  · intro listed a' w' I hall
    have hnl : ∀ j ∈ js, listed.getD j false = true := fun j hj => hall j (of_decide_eq_true (List.all_eq_true.1 hjs j hj))
    obtain ⟨ψ, acc, hψ, hpw, hG⟩ := DepM.run I js φ [] _ [] hnl (nodupB_spec hnd) (by simp) (by simp [AccOK]) ⟨I.inv.defers, I.inv.size, I.inv.base⟩ (fin w'.heap I.inv.ext)
    refine hG hpw (fun i d f e v u hi hL hd hv hu => ?_) w0 a' w' I.inv.same rfl hψ
    obtain ⟨x, hx1, hx2⟩ := I.link i d f e v (hnl i hi) hL hd (hψ.slot e v hv)
    have := hψ.slot d u hu
    rw [hx1] at this
    cases this
    exact hx2
  · simp [cnt]
  · refine ⟨⟨ho.defers, ho.size, hs.trans (Same.drawn ..), by show Ext h w.heap; rw [hw]; exact Ext.refl _, by simp, fun i hi => by
      by_cases hlt : i < ops.length <;> simp [hlt] at hi, fun i _ => by
      by_cases hlt : i < ops.length <;> simp [hlt], fun i d hi => by
      by_cases hlt : i < ops.length <;> simp [hlt] at hi, ho.slot⟩, fun i d v hi => by
      by_cases hlt : i < ops.length <;> simp [hlt] at hi, fun i j d e v u _ hi => by
      by_cases hlt : i < ops.length <;> simp [hlt] at hi, fun i d f e v hi => by
      by_cases hlt : i < ops.length <;> simp [hlt] at hi⟩
end

/-- what an operation made is new -/
theorem Sep.fresh {h h' : Heap} {A : List Thing} (T : Sep [] h.size h' A) : ∀ b, some b ∈ A.map (·.blk) → h.size ≤ b ∧ b < h'.size := by
  intro b hb
  obtain ⟨o, ho, e⟩ := List.mem_map.1 hb
  obtain ⟨h1, h2⟩ := T.blk o ho b e
  exact ⟨h2.elim id (fun h => by cases h), h1⟩
/-- two that lie apart -/
theorem Sep.both {n : Nat} {h : Heap} {A A' : List Thing} (S : Sep [] n h A) (T : Sep [] n h A') (hap : Apt (A.map (·.blk)) (A'.map (·.blk))) : Sep [] n h (A ++ A') := by
  refine ⟨fun o ho => ?_, fun o ho => ?_, List.pairwise_append.2 ⟨S.apart, T.apart, fun o ho o' ho' b hb hb' => hap b (hb ▸ List.mem_map_of_mem ho) (hb' ▸ List.mem_map_of_mem ho')⟩⟩
  · rcases List.mem_append.1 ho with ho | ho
    · exact S.holds o ho
    · exact T.holds o ho
  · rcases List.mem_append.1 ho with ho | ho
    · exact S.blk o ho
    · exact T.blk o ho
theorem Apt.cat {x y z : List (Option Nat)} (h : Apt x z) (k : Apt y z) : Apt (x ++ y) z := fun b hb => (List.mem_append.1 hb).elim (h b) (k b)
theorem Apt.cat' {x y z : List (Option Nat)} (h : Apt z x) (k : Apt z y) : Apt z (x ++ y) := fun b hb hb' => (List.mem_append.1 hb').elim (h b hb) (k b hb)
theorem Apt.symm {x y : List (Option Nat)} (h : Apt x y) : Apt y x := fun b hb hb' => h b hb' hb
theorem Apt.of {l : List (List (Option Nat))} (h : l.Pairwise Apt) (i j : Nat) {x y : List (Option Nat)} (hi : l[i]? = some x) (hj : l[j]? = some y) (hij : i < j) : Apt x y := by
  obtain ⟨h1, rfl⟩ := List.getElem?_eq_some_iff.1 hi
  obtain ⟨h2, rfl⟩ := List.getElem?_eq_some_iff.1 hj
  exact List.pairwise_iff_getElem.1 h i j h1 h2 hij
def vget : Value → Nat → Value
  | .tuple xs, i => xs.getD i undef
  | .agg xs, i => xs.getD i undef
  | _, _ => undef
def ptrB : Value → Option Nat
  | .pointer (some p) => some p.block
  | _ => none
theorem freshNil {h h' : Heap} {v : Value} : ∀ b, some b ∈ ([none] : List (Option Nat)) → h.size ≤ b ∧ b < h'.size := by intro b hb; simp at hb
end Go.H
