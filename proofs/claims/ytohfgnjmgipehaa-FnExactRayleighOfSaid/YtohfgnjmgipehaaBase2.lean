/- Regions that draw their order: what each operation gives, told by a property of the value alone. -/
import Derived.Test.YtohfgnjmgipehaaBase1
namespace Go.H
open Go

structure Ext (h h' : Heap) : Prop where
  size : h.size ≤ h'.size
  blk : ∀ b, b < h.size → h'[b]? = h[b]?

theorem Ext.refl (h : Heap) : Ext h h := ⟨Nat.le_refl _, fun _ _ => rfl⟩
theorem Ext.trans {a b c : Heap} (x : Ext a b) (y : Ext b c) : Ext a c :=
  ⟨Nat.le_trans x.size y.size, fun k hk => (y.blk k (Nat.lt_of_lt_of_le hk x.size)).trans (x.blk k hk)⟩

/-- how a heap may go on -/
structure Pre (E : Heap → Heap → Prop) : Prop where
  refl : ∀ h, E h h
  trans : ∀ {a b c}, E a b → E b c → E a c
theorem Pre.ext : Pre Ext := ⟨Ext.refl, Ext.trans⟩
theorem Pre.eq : Pre (fun a b : Heap => a = b) := ⟨fun _ => rfl, fun h k => h.trans k⟩

def dstOf (ops : List Oper) (i : Nat) : Option Nat := (ops[i]?).bind (·.dst)

def depsOf (ops : List Oper) (i : Nat) : List Nat :=
  match ops[i]? with
  | some o => (o.after.toList.filter (fun e => Region.binds .any e)).map (·.on)
  | none => []

def closeDown (ops : List Oper) : Nat → List Nat → List Nat
  | 0, s => s
  | k + 1, s => closeDown ops k (if s.contains k then depsOf ops k ++ s else s)

def bodyOK (N : Nat) (ops : List Oper) (nb : Nat) : Bool :=
  (List.range nb).all fun i => match ops[i]? with
    | none => false
    | some o =>
      (match o.dst with | some d => decide (d < N) | none => false) && (depsOf ops i).all (fun e => decide (e < i)) &&
      (List.range nb).all (fun j => j == i || dstOf ops j != o.dst) &&
      (o.looksAt ops.toArray).all (fun t => (List.range nb).all fun j => dstOf ops j != some t || (depsOf ops i).contains j)

def tailOK (ops : List Oper) (nb : Nat) : Bool :=
  (List.range (ops.length - nb)).all fun k => (depsOf ops (nb + k)).all (fun e => decide (e < nb + k)) &&
    (List.range (nb + k)).all (fun i => (closeDown ops (nb + k) (depsOf ops (nb + k))).contains i)

def clearB (ops : List Oper) (nb : Nat) (φ : Fr) : Bool := φ.all fun p => (List.range nb).all fun j => dstOf ops j != some p.1

def nthS : List (Value → Heap → Prop) → Nat → Value → Heap → Prop
  | [], _ => fun _ _ => False
  | s :: _, 0 => s
  | _ :: r, n + 1 => nthS r n

def StableL (E : Heap → Heap → Prop) : List (Value → Heap → Prop) → Prop
  | [] => True
  | s :: r => (∀ v h h', s v h → E h h' → s v h') ∧ StableL E r

theorem StableL.eq : ∀ (l : List (Value → Heap → Prop)), StableL (fun a b => a = b) l
  | [] => trivial
  | _ :: r => ⟨fun _ _ _ h e => e ▸ h, StableL.eq r⟩

theorem StableL.nth {E : Heap → Heap → Prop} : ∀ {l : List (Value → Heap → Prop)} (_ : StableL E l) (i : Nat) {v : Value} {h h' : Heap}, nthS l i v h → E h h' → nthS l i v h'
  | [], _, _, _, _, _, h, _ => h.elim
  | _ :: _, hl, 0, _, _, _, h, e => hl.1 _ _ _ h e
  | _ :: _, hl, n + 1, _, _, _, h, e => hl.2.nth n h e

def Dep (ops : List Oper) (S : Nat → Value → Heap → Prop) (h : Heap) : List Nat → Fr → (Fr → Prop) → Prop
  | [], φ, K => K φ
  | j :: js, φ, K => match dstOf ops j with
    | some d => ∀ v, S j v h → Dep ops S h js ((d, v) :: φ) K
    | none => Dep ops S h js φ K

/-- an operation behind its guard -/
def GuardOK (P : Program) (ops : List Oper) (φ : Fr) (o : Oper) (h : Heap) (K : Value → Heap → Prop) : Prop :=
  match o.guard with
  | none => OpV P φ o h K
  | some (j, want) => match dstOf ops j with
    | some t => (∃ b, φ.get t = some (.bool b) ∧ (b = want → OpV P φ o h K) ∧ (b ≠ want → K undef h)) ∨ (φ.get t = some undef ∧ K undef h)
    | none => False

theorem Dep.nil {ops : List Oper} {S : Nat → Value → Heap → Prop} {h : Heap} {φ : Fr} {K : Fr → Prop} (H : K φ) : Dep ops S h [] φ K := H
theorem GuardOK.none {P : Program} {ops : List Oper} {φ : Fr} {o : Oper} {h : Heap} {K : Value → Heap → Prop} (hg : o.guard = .none) (H : OpV P φ o h K) : GuardOK P ops φ o h K := by
  unfold GuardOK; rw [hg]; exact H
theorem GuardOK.some {P : Program} {ops : List Oper} {φ : Fr} {o : Oper} {h : Heap} {K : Value → Heap → Prop} {j t : Nat} {want b : Bool} (hg : o.guard = .some (j, want)) (hj : dstOf ops j = .some t) (ht : φ.get t = .some (.bool b)) (hb : b = want) (H : OpV P φ o h K) : GuardOK P ops φ o h K := by
  unfold GuardOK; rw [hg]; simp only [hj]; exact .inl ⟨b, ht, fun _ => H, fun hn => absurd hb hn⟩
theorem GuardOK.pass {P : Program} {ops : List Oper} {φ : Fr} {o : Oper} {h : Heap} {K : Value → Heap → Prop} {j t : Nat} {want b : Bool} (hg : o.guard = .some (j, want)) (hj : dstOf ops j = .some t) (ht : φ.get t = .some (.bool b)) (hb : b = !want) (H : K undef h) : GuardOK P ops φ o h K := by
  unfold GuardOK; rw [hg]; simp only [hj]
  exact .inl ⟨b, ht, fun hn => by rw [hb] at hn; cases want <;> simp at hn, fun _ => H⟩
theorem GuardOK.passU {P : Program} {ops : List Oper} {φ : Fr} {o : Oper} {h : Heap} {K : Value → Heap → Prop} {j t : Nat} {want : Bool} (hg : o.guard = .some (j, want)) (hj : dstOf ops j = .some t) (ht : φ.get t = .some undef) (H : K undef h) : GuardOK P ops φ o h K := by
  unfold GuardOK; rw [hg]; simp only [hj]
  exact .inr ⟨ht, H⟩

def Steps (E : Heap → Heap → Prop) (P : Program) (ops : List Oper) (φ : Fr) (h : Heap) (S : Nat → Value → Heap → Prop) : Nat → List (List Nat) → List Oper → Prop
  | _, [], _ => True
  | i, ds :: dr, o :: r =>
    (ds.all (fun j => (depsOf ops i).contains j) = true ∧ ∀ h', E h h' → Dep ops S h' ds φ (fun φ' => GuardOK P ops φ' o h' (fun v h'' => E h' h'' ∧ S i v h''))) ∧
    Steps E P ops φ h S (i + 1) dr r
  | _, _ :: _, [] => False

theorem Steps.nth {E : Heap → Heap → Prop} {P : Program} {ops : List Oper} {φ : Fr} {h : Heap} {S : Nat → Value → Heap → Prop} :
    ∀ {i : Nat} {dl : List (List Nat)} {l : List Oper}, Steps E P ops φ h S i dl l → ∀ k ds, dl[k]? = some ds →
      ∃ o, l[k]? = some o ∧ ds.all (fun j => (depsOf ops (i + k)).contains j) = true ∧ ∀ h', E h h' → Dep ops S h' ds φ (fun φ' => GuardOK P ops φ' o h' (fun v h'' => E h' h'' ∧ S (i + k) v h''))
  | _, [], _, _, k, ds, hk => by simp at hk
  | i, ds :: dr, o :: r, H, 0, ds', hk => by
    simp only [List.getElem?_cons_zero, Option.some.injEq] at hk
    subst hk
    exact ⟨o, rfl, H.1.1, H.1.2⟩
  | i, ds :: dr, o :: r, H, k + 1, ds', hk => by
    obtain ⟨o', h1, h2, h3⟩ := Steps.nth H.2 k ds' (by simpa using hk)
    have e : i + 1 + k = i + (k + 1) := by omega
    rw [e] at h2 h3
    exact ⟨o', by simpa using h1, h2, h3⟩
  | _, _ :: _, [], H, _, _, _ => H.elim

/-! the run -/

def cnt (l : List Bool) : Nat := l.count false

theorem cnt_set : ∀ (l : List Bool) (i : Nat), l[i]? = some false → cnt (l.set i true) + 1 = cnt l
  | [], i, h => by simp at h
  | b :: l, 0, h => by simp at h; subst h; simp [cnt]
  | b :: l, i + 1, h => by
    have := cnt_set l i (by simpa using h)
    simp only [cnt, List.set_cons_succ, List.count_cons] at this ⊢
    omega

theorem cnt_zero {l : List Bool} (h : cnt l = 0) (i : Nat) (hi : i < l.length) : l[i]? = some true := by
  have := List.count_eq_zero.1 h
  rw [List.getElem?_eq_getElem hi]
  cases hb : l[i] with
  | true => rfl
  | false => exact absurd (hb ▸ List.getElem_mem hi) this

theorem getD_true_of {listed : Array Bool} {i : Nat} (h : listed.getD i false = true) : listed.getD i true = true := by
  by_cases hi : i < listed.size
  · simpa [hi] using h
  · simp [hi]

theorem getD_lt {listed : Array Bool} {i : Nat} (h : listed.getD i false = true) : i < listed.size := by
  by_cases hi : i < listed.size
  · exact hi
  · simp [hi] at h

section
variable {P : Program} {N : Nat} {Q : Exit → Fr → Heap → Prop} {ops : List Oper}

/-- whatever is listed, all that it waits for is -/
def Down (ops : List Oper) (listed : Array Bool) : Prop := ∀ i, listed.getD i false = true → ∀ e ∈ depsOf ops i, listed.getD e false = true

theorem closeDown_listed {listed : Array Bool} (hd : Down ops listed) : ∀ (k : Nat) (s : List Nat), (∀ i ∈ s, listed.getD i false = true) → ∀ i ∈ closeDown ops k s, listed.getD i false = true
  | 0, _, hs => hs
  | k + 1, s, hs => by
    unfold closeDown
    refine closeDown_listed hd k _ ?_
    split
    · rename_i hk
      intro i hi
      rcases List.mem_append.1 hi with h | h
      · exact hd k (hs k (by simpa using hk)) i h
      · exact hs i h
    · exact hs

theorem ready_deps {listed : Array Bool} {i : Nat} (hi : i ∈ Region.ready .any ops.toArray listed) : listed.getD i true = false ∧ i < ops.length ∧ ∀ e ∈ depsOf ops i, listed.getD e false = true := by
  obtain ⟨h0, o, ho, hall⟩ := mem_ready.1 hi
  have ho' : ops[i]? = some o := by simpa using ho
  refine ⟨h0, (List.getElem?_eq_some_iff.1 ho').1, fun e he => ?_⟩
  unfold depsOf at he
  rw [ho'] at he
  simp only [List.mem_map, List.mem_filter] at he
  obtain ⟨x, ⟨hx, hb⟩, rfl⟩ := he
  exact hall x (by simpa using hx) hb

theorem ready_of {listed : Array Bool} {i : Nat} (h0 : listed.getD i true = false) (hi : i < ops.length) (hd : ∀ e ∈ depsOf ops i, listed.getD e false = true) : i ∈ Region.ready .any ops.toArray listed := by
  refine mem_ready.2 ⟨h0, ops[i], by simp [hi], fun e he hb => hd _ ?_⟩
  unfold depsOf
  rw [List.getElem?_eq_getElem hi]
  simp only [List.mem_map, List.mem_filter]
  exact ⟨e, ⟨by simpa using he, hb⟩, rfl⟩

theorem down_set {listed : Array Bool} {i : Nat} (hd : Down ops listed) (hi : ∀ e ∈ depsOf ops i, listed.getD e false = true) : Down ops (listed.setIfInBounds i true) := by
  intro j hj e he
  have keep : ∀ k, listed.getD k false = true → (listed.setIfInBounds i true).getD k false = true := by
    intro k hk
    have := getD_lt hk
    by_cases hik : i = k
    · subst hik; simp [this]
    · simp [Array.getElem?_setIfInBounds_ne hik] at hk ⊢; exact hk
  by_cases hij : i = j
  · subst hij; exact keep e (hi e he)
  · refine keep e (hd j ?_ e he)
    simpa [Array.getElem?_setIfInBounds_ne hij] using hj

/-- first k listed, no other -/
def Upto (k : Nat) (listed : Array Bool) : Prop := ∀ i, i < listed.size → (listed.getD i false = true ↔ i < k)

theorem tail_any {nb : Nat} (hT : tailOK ops nb = true) (Qw : Exit → Act → World → Prop) : ∀ (m k : Nat) (listed : Array Bool) (a : Act) (w : World), nb ≤ k → k + m = ops.length → listed.size = ops.length → Upto k listed → Down ops listed →
    wpList P ops.toArray Qw (ops.drop k) a w → wpAny P .any ops.toArray Qw m listed a w := by
  intro m
  induction m with
  | zero =>
    intro k listed a w hk hm hs hu _ H
    have hn : Region.ready .any ops.toArray listed = [] := by
      refine List.eq_nil_iff_forall_not_mem.2 fun i hi => ?_
      obtain ⟨h1, h2, _⟩ := ready_deps hi
      have := (hu i (by omega)).2 (by omega)
      have := getD_true_of this
      rw [h1] at this; cases this
    refine ⟨hn, ?_⟩
    rw [List.drop_eq_nil_of_le (by omega)] at H
    exact H
  | succ m ih =>
    intro k listed a w hk hm hs hu hd H
    have hT' := List.all_eq_true.1 hT (k - nb) (by simp; omega)
    rw [show nb + (k - nb) = k from by omega, Bool.and_eq_true] at hT'
    have hdep : ∀ e ∈ depsOf ops k, listed.getD e false = true := fun e he => by
      have := List.all_eq_true.1 hT'.1 e he
      have := of_decide_eq_true this
      exact (hu e (by omega)).2 this
    have hk0 : listed.getD k true = false := by
      have hlt : k < listed.size := by omega
      have h1 : ¬ listed.getD k false = true := fun h => by have := (hu k hlt).1 h; omega
      simp [hlt] at h1 ⊢
      exact h1
    have hr : k ∈ Region.ready .any ops.toArray listed := ready_of hk0 (by omega) hdep
    refine ⟨fun h => (by rw [h] at hr; cases hr), fun i hi => ?_⟩
    obtain ⟨h1, h2, h3⟩ := ready_deps hi
    have hik : i = k := by
      have hi1 : ¬ i < k := fun hlt => by
        have := getD_true_of ((hu i (by omega)).2 hlt)
        rw [h1] at this; cases this
      have hi2 : ¬ k < i := fun hlt => by
        have hTi := List.all_eq_true.1 hT (i - nb) (by simp; omega)
        rw [show nb + (i - nb) = i from by omega, Bool.and_eq_true] at hTi
        have := List.all_eq_true.1 hTi.2 k (by simp; omega)
        have := closeDown_listed hd i (depsOf ops i) h3 k (by simpa using this)
        have := (hu k (by omega)).1 this
        omega
      omega
    subst hik
    rw [List.drop_eq_getElem_cons h2] at H
    unfold wpOp
    have hl' : ops.toArray[i]? = some ops[i] := by simp
    rw [hl']
    simp only [wpList] at H
    have next : ∀ a w, wpList P ops.toArray Qw (ops.drop (i + 1)) a w → wpAny P .any ops.toArray Qw m (listed.setIfInBounds i true) a w := by
      intro a w H
      refine ih (i + 1) _ a w (by omega) (by omega) (by simp [hs]) ?_ (down_set hd h3) H
      intro j hj
      have hj' : j < listed.size := by simpa using hj
      by_cases hij : i = j
      · subst hij; simp [hj']
      · have := hu j hj'
        simp only [Array.getD_eq_getD_getElem?, Array.getElem?_setIfInBounds_ne hij] at this ⊢
        rw [this]; omega
    by_cases hw : Region.wanted ops[i] (yielded ops.toArray a.tmps) = true
    · rw [if_pos hw] at H
      simp only [hw, if_true]
      exact H.imp (Oper.wp_mono next) id
    · rw [if_neg hw] at H
      simp only [hw]
      exact next _ _ H

/-- what is known while the first nb operations run -/
structure Inv (E : Heap → Heap → Prop) (N : Nat) (ops : List Oper) (nb : Nat) (S : Nat → Value → Heap → Prop) (φ : Fr) (h : Heap) (w0 : World) (listed : Array Bool) (a : Act) (w : World) : Prop where
  defers : a.defers = []
  size : a.tmps.size = N
  same : Same w0 w
  ext : E h w.heap
  len : listed.size = ops.length
  down : Down ops listed
  notail : ∀ i, nb ≤ i → listed.getD i false = false
  vals : ∀ i d, listed.getD i false = true → dstOf ops i = some d → ∃ v, a.tmps[d]? = some v ∧ S i v w.heap
  base : ∀ t v, φ.get t = some v → a.tmps[t]? = some v

theorem Dep.run {E : Heap → Heap → Prop} {S : Nat → Value → Heap → Prop} {w0 : World} {nb : Nat} {φ : Fr} {h : Heap} {listed : Array Bool} {a : Act} {w : World} (I : Inv E N ops nb S φ h w0 listed a w) :
    ∀ (js : List Nat) (ψ : Fr) (K : Fr → Prop), (∀ j ∈ js, listed.getD j false = true) → Ok N ψ a → Dep ops S w.heap js ψ K → ∃ ψ', Ok N ψ' a ∧ K ψ'
  | [], ψ, _, _, ho, H => ⟨ψ, ho, H⟩
  | j :: js, ψ, K, hj, ho, H => by
    unfold Dep at H
    cases hd : dstOf ops j with
    | none => rw [hd] at H; exact Dep.run I js ψ K (fun k hk => hj k (List.mem_cons_of_mem _ hk)) ho H
    | some d =>
      rw [hd] at H
      obtain ⟨v, h1, h2⟩ := I.vals j d (hj j (List.mem_cons_self ..)) hd
      refine Dep.run I js ((d, v) :: ψ) K (fun k hk => hj k (List.mem_cons_of_mem _ hk)) ⟨ho.defers, ho.size, fun t u ht => ?_⟩ (H v h2)
      simp only [Fr.get] at ht
      cases hb : Nat.beq d t with
      | true =>
        rw [hb] at ht
        simp only [cond_true, Option.some.injEq] at ht
        rw [← Nat.eq_of_beq_eq_true hb, ← ht]; exact h1
      | false => rw [hb] at ht; exact ho.slot t u ht

theorem body_spec {nb : Nat} (hB : bodyOK N ops nb = true) {i : Nat} (hi : i < nb) : ∃ o d, ops[i]? = some o ∧ o.dst = some d ∧ d < N ∧ (∀ e ∈ depsOf ops i, e < i) ∧
    (∀ j, j < nb → j ≠ i → dstOf ops j ≠ some d) := by
  have := List.all_eq_true.1 hB i (by simpa using hi)
  cases ho : ops[i]? with
  | none => rw [ho] at this; cases this
  | some o =>
    rw [ho] at this
    simp only [Bool.and_eq_true] at this
    obtain ⟨⟨⟨h1, h2⟩, h3⟩, _⟩ := this
    cases hd : o.dst with
    | none => rw [hd] at h1; cases h1
    | some d =>
      rw [hd] at h1
      refine ⟨o, d, rfl, hd, of_decide_eq_true h1, fun e he => of_decide_eq_true (List.all_eq_true.1 h2 e he), fun j hj hne => ?_⟩
      have := List.all_eq_true.1 h3 j (by simpa using hj)
      rw [hd] at this
      simpa [hne] using this

theorem clear_spec {nb : Nat} {φ : Fr} (hφ : clearB ops nb φ = true) {i d : Nat} (hi : i < nb) (hd : dstOf ops i = some d) : ∀ v, φ.get d ≠ some v := by
  intro v hv
  induction φ with
  | nil => simp [Fr.get] at hv
  | cons p r ih =>
    simp only [clearB, List.all_cons, Bool.and_eq_true] at hφ
    simp only [Fr.get] at hv
    cases hb : Nat.beq p.1 d with
    | true =>
      have e := Nat.eq_of_beq_eq_true hb
      have := List.all_eq_true.1 hφ.1 i (by simpa using hi)
      rw [hd, e] at this
      simp at this
    | false => rw [hb] at hv; exact ih hφ.2 hv

theorem Inv.put {E : Heap → Heap → Prop} (hE : Pre E) {S : Nat → Value → Heap → Prop} {w0 : World} {nb : Nat} {φ : Fr} {h : Heap} {listed : Array Bool} {a : Act} {w : World} (I : Inv E N ops nb S φ h w0 listed a w)
    (hB : bodyOK N ops nb = true) (hφ : clearB ops nb φ = true) (hst : ∀ i v h h', S i v h → E h h' → S i v h')
    {i : Nat} (hi : i < nb) {o : Oper} (ho : ops[i]? = some o) (hde : ∀ e ∈ depsOf ops i, listed.getD e false = true) {v : Value} {w' : World} (hs : Same w0 w') (he : E w.heap w'.heap) (hv : S i v w'.heap) :
    Inv E N ops nb S φ h w0 (listed.setIfInBounds i true) (a.put o.dst v) w' := by
  obtain ⟨o', d, ho', hd, hdN, _, huniq⟩ := body_spec hB hi
  rw [ho] at ho'
  cases ho'
  have hdi : dstOf ops i = some d := by simp [dstOf, ho, hd]
  rw [hd]
  refine ⟨I.defers, by simp [Act.put, I.size], hs, hE.trans I.ext he, by simp [I.len], down_set I.down hde, fun k hk => ?_, fun k e hk hke => ?_, fun t u ht => ?_⟩
  · have := I.notail k hk
    simpa [Array.getElem?_setIfInBounds_ne (show i ≠ k by omega)] using this
  · by_cases hik : i = k
    · subst hik
      rw [hdi] at hke
      cases hke
      refine ⟨v, ?_, hv⟩
      have : d < a.tmps.size := by rw [I.size]; exact hdN
      simp [Act.put, this]
    · have hk' : listed.getD k false = true := by simpa [Array.getElem?_setIfInBounds_ne hik] using hk
      have hkn : k < nb := by
        rcases Nat.lt_or_ge k nb with h | h
        · exact h
        · have := I.notail k h; rw [this] at hk'; cases hk'
      obtain ⟨u, h1, h2⟩ := I.vals k e hk' hke
      have hne : d ≠ e := fun x => huniq k hkn (Ne.symm hik) (x ▸ hke)
      exact ⟨u, by simpa [Act.put, Array.getElem?_setIfInBounds_ne hne] using h1, hst _ _ _ _ h2 he⟩
  · have hne : d ≠ t := fun x => clear_spec hφ hi hdi u (x ▸ ht)
    simpa [Act.put, Array.getElem?_setIfInBounds_ne hne] using I.base t u ht

theorem body_any {E : Heap → Heap → Prop} (hE : Pre E) {dl : List (List Nat)} {Sl : List (Value → Heap → Prop)} {φ : Fr} {h : Heap} {w0 : World} {Qw : Exit → Act → World → Prop}
    (hB : bodyOK N ops dl.length = true) (hT : tailOK ops dl.length = true) (hφ : clearB ops dl.length φ = true) (hln : dl.length ≤ ops.length)
    (stable : StableL E Sl) (steps : Steps E P ops φ h (nthS Sl) 0 dl ops)
    (fin' : ∀ listed a w, Inv E N ops dl.length (nthS Sl) φ h w0 listed a w → (∀ i, i < dl.length → listed.getD i false = true) → wpList P ops.toArray Qw (ops.drop dl.length) a w) :
    ∀ (m : Nat) (listed : Array Bool) (a : Act) (w : World), cnt listed.toList = m → Inv E N ops dl.length (nthS Sl) φ h w0 listed a w → wpAny P .any ops.toArray Qw m listed a w := by
  intro m
  induction m with
  | zero =>
    intro listed a w hc I
    have hall : ∀ i, i < ops.length → listed.getD i false = true := fun i hi => by
      have := cnt_zero hc i (by simpa [I.len] using hi)
      have : listed[i]? = some true := by simpa using this
      simp [this]
    refine tail_any hT Qw 0 ops.length listed a w hln (by omega) I.len (fun i hi => ⟨fun _ => by have := I.len; omega, fun _ => hall i (by have := I.len; omega)⟩) I.down ?_
    have := fin' listed a w I (fun i hi => hall i (by omega))
    rcases Nat.lt_or_ge dl.length ops.length with hlt | hge
    · have h1 := I.notail dl.length (Nat.le_refl _)
      rw [hall _ hlt] at h1; cases h1
    · rw [List.drop_eq_nil_of_le hge] at this
      rw [List.drop_eq_nil_of_le (Nat.le_refl _)]
      exact this
  | succ m ih =>
    intro listed a w hc I
    by_cases hall : ∀ i, i < dl.length → listed.getD i false = true
    · have hu : Upto dl.length listed := by
        intro i _
        refine ⟨fun h1 => ?_, hall i⟩
        rcases Nat.lt_or_ge i dl.length with h | h
        · exact h
        · have := I.notail i h
          rw [this] at h1
          cases h1
      have hm : dl.length + (m + 1) = ops.length := by
        have hsplit : cnt listed.toList = ops.length - dl.length := by
          have e : listed.toList = List.replicate dl.length true ++ List.replicate (ops.length - dl.length) false := by
            refine List.ext_getElem? fun i => ?_
            rcases Nat.lt_or_ge i ops.length with hi | hi
            · have hsz : i < listed.size := by rw [I.len]; exact hi
              rcases Nat.lt_or_ge i dl.length with h | h
              · have := hall i h
                simp only [hsz, Array.getD_eq_getD_getElem?, Array.getElem?_eq_getElem, Option.getD_some] at this
                simp [List.getElem?_append, h, hsz, this]
              · have := I.notail i h
                simp only [hsz, Array.getD_eq_getD_getElem?, Array.getElem?_eq_getElem, Option.getD_some] at this
                rw [List.getElem?_append_right (by simpa using h)]
                simp only [Array.getElem?_toList, hsz, Array.getElem?_eq_getElem, this, List.length_replicate, List.getElem?_replicate]
                rw [if_pos (by omega)]
            · have hsz : ¬ i < listed.size := by rw [I.len]; omega
              rw [List.getElem?_eq_none (by simp; omega), List.getElem?_eq_none (by simp; omega)]
          rw [e]
          simp [cnt, List.count_append, List.count_replicate]
        omega
      exact tail_any hT Qw (m + 1) dl.length listed a w (Nat.le_refl _) hm I.len hu I.down (fin' listed a w I hall)
    · have hne : ∃ i, i < dl.length ∧ listed.getD i false = false ∧ ∀ k, k < i → listed.getD k false = true := by
        have hex : ∃ i, i < dl.length ∧ listed.getD i false = false := by
          refine Classical.byContradiction fun hno => hall fun i hi => ?_
          cases hb : listed.getD i false with
          | true => rfl
          | false => exact absurd ⟨i, hi, hb⟩ hno
        obtain ⟨i, hi⟩ := hex
        induction i using Nat.strongRecOn with
        | _ i ihi =>
          by_cases hk : ∀ k, k < i → listed.getD k false = true
          · exact ⟨i, hi.1, hi.2, hk⟩
          · have : ∃ k, k < i ∧ listed.getD k false = false := by
              refine Classical.byContradiction fun hno => hk fun k hki => ?_
              cases hb : listed.getD k false with
              | true => rfl
              | false => exact absurd ⟨k, hki, hb⟩ hno
            obtain ⟨k, hki, hkf⟩ := this
            exact ihi k hki ⟨by omega, hkf⟩
      obtain ⟨i0, hi0, hf0, hlow⟩ := hne
      obtain ⟨o0, d0, ho0, _, _, hdep0, _⟩ := body_spec hB hi0
      have hi0l : i0 < ops.length := (List.getElem?_eq_some_iff.1 ho0).1
      have hr0 : i0 ∈ Region.ready .any ops.toArray listed := ready_of (by
        have : i0 < listed.size := by rw [I.len]; exact hi0l
        simp only [this, Array.getD_eq_getD_getElem?, Array.getElem?_eq_getElem, Option.getD_some] at hf0 ⊢; exact hf0) hi0l (fun e he => hlow e (hdep0 e he))
      refine ⟨fun h => (by rw [h] at hr0; cases hr0), fun i hi => ?_⟩
      obtain ⟨h1, h2, h3⟩ := ready_deps hi
      have hib : i < dl.length := by
        refine Classical.byContradiction fun hge => ?_
        have hTi := List.all_eq_true.1 hT (i - dl.length) (by simp; omega)
        rw [show dl.length + (i - dl.length) = i from by omega, Bool.and_eq_true] at hTi
        have := List.all_eq_true.1 hTi.2 i0 (by simp; omega)
        have := closeDown_listed I.down i (depsOf ops i) h3 i0 (by simpa using this)
        rw [hf0] at this; cases this
      obtain ⟨o, d, ho, hd, hdN, _, _⟩ := body_spec hB hib
      obtain ⟨o', ho', hsub, hstep⟩ := steps.nth i dl[i] (List.getElem?_eq_getElem hib)
      rw [ho] at ho'
      cases ho'
      simp only [Nat.zero_add] at hsub hstep
      have hokφ : Ok N φ a := ⟨I.defers, I.size, I.base⟩
      obtain ⟨ψ, hψ, hG⟩ := Dep.run I dl[i] φ _ (fun j hj => h3 j (by simpa using List.all_eq_true.1 hsub j hj)) hokφ (hstep w.heap I.ext)
      have hcn : cnt (listed.setIfInBounds i true).toList = m := by
        have hlt : i < listed.size := by rw [I.len]; exact h2
        have hfl : listed.toList[i]? = some false := by
          simp only [hlt, Array.getD_eq_getD_getElem?, Array.getElem?_eq_getElem, Option.getD_some] at h1
          simp [hlt, h1]
        have := cnt_set listed.toList i hfl
        rw [Array.toList_setIfInBounds]
        omega
      have next : ∀ v w', Same w0 w' → E w.heap w'.heap → nthS Sl i v w'.heap → wpAny P .any ops.toArray Qw m (listed.setIfInBounds i true) (a.put o.dst v) w' := fun v w' hs he hv =>
        ih _ _ _ hcn (I.put hE hB hφ (fun k _ _ _ => stable.nth k) hib ho h3 hs he hv)
      unfold wpOp
      have ho2 : ops.toArray[i]? = some o := by simpa using ho
      rw [ho2]
      simp only
      unfold GuardOK at hG
      cases hg : o.guard with
      | none =>
        rw [hg] at hG
        rw [if_pos (by simp [Region.wanted, hg])]
        exact .inl (OpV.wp hG hψ rfl I.same fun v w' hs hk => next v w' hs hk.1 hk.2)
      | some gw =>
        obtain ⟨j, want⟩ := gw
        rw [hg] at hG
        simp only at hG
        cases hdj : dstOf ops j with
        | none => rw [hdj] at hG; exact hG.elim
        | some t =>
          rw [hdj] at hG
          rcases hG with ⟨b, hb, hyes, hno⟩ | ⟨hu, hK⟩
          case inr =>
            have hy : yielded ops.toArray a.tmps j = none := by
              unfold yielded
              have : (ops.toArray[j]?).bind (·.dst) = some t := by simpa [dstOf] using hdj
              rw [this]
              simp [hψ.slot t _ hu, undef]
            rw [if_neg (by simp [Region.wanted, hg, hy])]
            exact next undef w I.same hK.1 hK.2
          have hy : yielded ops.toArray a.tmps j = some b := by
            unfold yielded
            have : (ops.toArray[j]?).bind (·.dst) = some t := by simpa [dstOf] using hdj
            rw [this]
            simp [hψ.slot t _ hb]
          by_cases hbw : b = want
          · rw [if_pos (by simp [Region.wanted, hg, hy, hbw])]
            exact .inl (OpV.wp (hyes hbw) hψ rfl I.same fun v w' hs hk => next v w' hs hk.1 hk.2)
          · rw [if_neg (by simp [Region.wanted, hg, hy, hbw])]
            obtain ⟨he, hv⟩ := hno hbw
            exact next undef w I.same he hv

theorem W.regionE {E : Heap → Heap → Prop} (hE : Pre E) {id : Nat} {φ : Fr} {h : Heap} (Sl : List (Value → Heap → Prop)) (dl : List (List Nat)) (js : List Nat) (hm : P.follows .mixedOrders = true)
    (hB : bodyOK N ops dl.length = true) (hT : tailOK ops dl.length = true) (hφ : clearB ops dl.length φ = true) (hjs : js.all (fun j => decide (j < dl.length)) = true) (hln : Nat.ble dl.length ops.length = true)
    (stable : StableL E Sl) (steps : Steps E P ops φ h (nthS Sl) 0 dl ops)
    (fin : ∀ h', E h h' → Dep ops (nthS Sl) h' js φ (fun φ' => RL P N ops.toArray Q (ops.drop dl.length) φ' h')) : W P N (.region id ops.toArray true) Q φ h := by
  intro w0 a w hs hw ho
  have hl := Nat.le_of_ble_eq_true hln
  refine wp_region_any hm (body_any hE (w0 := w0) (h := h) hB hT hφ hl stable steps ?_ _ _ _ _ ?_ ?_)
  · intro listed a' w' I hall
    obtain ⟨ψ, hψ, hG⟩ := Dep.run I js φ _ (fun j hj => hall j (of_decide_eq_true (List.all_eq_true.1 hjs j hj))) ⟨I.defers, I.size, I.base⟩ (fin w'.heap I.ext)
    exact hG w0 a' w' I.same rfl hψ
  · simp [cnt]
  · exact ⟨ho.defers, ho.size, hs.trans (Same.drawn ..), by show E h w.heap; rw [hw]; exact hE.refl _, by simp, fun i hi => by
      by_cases hlt : i < ops.length <;> simp [hlt] at hi, fun i _ => by
      by_cases hlt : i < ops.length <;> simp [hlt], fun i d hi => by
      by_cases hlt : i < ops.length <;> simp [hlt] at hi, ho.slot⟩

theorem W.regionS {id : Nat} {φ : Fr} {h : Heap} (Sl : List (Value → Heap → Prop)) (dl : List (List Nat)) (js : List Nat) (hm : P.follows .mixedOrders = true)
    (hB : bodyOK N ops dl.length = true) (hT : tailOK ops dl.length = true) (hφ : clearB ops dl.length φ = true) (hjs : js.all (fun j => decide (j < dl.length)) = true) (hln : Nat.ble dl.length ops.length = true)
    (stable : StableL Ext Sl) (steps : Steps Ext P ops φ h (nthS Sl) 0 dl ops)
    (fin : ∀ h', Ext h h' → Dep ops (nthS Sl) h' js φ (fun φ' => RL P N ops.toArray Q (ops.drop dl.length) φ' h')) : W P N (.region id ops.toArray true) Q φ h :=
  W.regionE Pre.ext Sl dl js hm hB hT hφ hjs hln stable steps fin

/-- the same where no operation turns the heap -/
theorem W.regionP {id : Nat} {φ : Fr} {h : Heap} (Sl : List (Value → Heap → Prop)) (dl : List (List Nat)) (js : List Nat) (hm : P.follows .mixedOrders = true)
    (hB : bodyOK N ops dl.length = true) (hT : tailOK ops dl.length = true) (hφ : clearB ops dl.length φ = true) (hjs : js.all (fun j => decide (j < dl.length)) = true) (hln : Nat.ble dl.length ops.length = true)
    (steps : Steps (fun a b => a = b) P ops φ h (nthS Sl) 0 dl ops)
    (fin : Dep ops (nthS Sl) h js φ (fun φ' => RL P N ops.toArray Q (ops.drop dl.length) φ' h)) : W P N (.region id ops.toArray true) Q φ h :=
  W.regionE Pre.eq Sl dl js hm hB hT hφ hjs hln (StableL.eq Sl) steps (fun _ e => e ▸ fin)

theorem OpV.toD {φ : Fr} {o : Oper} {h : Heap} {u : Value} {S : Value → Heap → Prop} (H : OpV P φ o h (fun v h' => u = v ∧ h = h')) (hs : S u h) : OpV P φ o h (fun v h' => h = h' ∧ S v h') :=
  H.mono fun _ _ ⟨e1, e2⟩ => ⟨e2, e1 ▸ e2 ▸ hs⟩
theorem OpV.toS {φ : Fr} {o : Oper} {h : Heap} {T S : Value → Heap → Prop} (H : OpV P φ o h (fun v h' => T v h' ∧ h = h')) (hs : ∀ v, T v h → S v h) : OpV P φ o h (fun v h' => h = h' ∧ S v h') :=
  H.mono fun v _ ⟨t, e⟩ => ⟨e, e ▸ hs v (e ▸ t)⟩

theorem OpV.toDx {φ : Fr} {o : Oper} {h : Heap} {u : Value} {S : Value → Heap → Prop} (H : OpV P φ o h (fun v h' => u = v ∧ h = h')) (hs : S u h) : OpV P φ o h (fun v h' => Ext h h' ∧ S v h') :=
  H.mono fun _ _ ⟨e1, e2⟩ => ⟨e2 ▸ Ext.refl _, e1 ▸ e2 ▸ hs⟩
theorem OpV.toSx {φ : Fr} {o : Oper} {h : Heap} {T S : Value → Heap → Prop} (H : OpV P φ o h (fun v h' => T v h' ∧ h = h')) (hs : ∀ v, T v h → S v h) : OpV P φ o h (fun v h' => Ext h h' ∧ S v h') :=
  H.mono fun v _ ⟨t, e⟩ => ⟨e ▸ Ext.refl _, e ▸ hs v (e ▸ t)⟩
end
end Go.H
