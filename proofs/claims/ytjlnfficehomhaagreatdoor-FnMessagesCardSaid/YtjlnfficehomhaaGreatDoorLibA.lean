/- The library: frames told in part, a judgement on code over them, floats. -/
import Derived.WalkKit
import Derived.LoopN
import Derived.Orders
import Derived.WalkLawsBesides
/- Loops as plain functions. -/
namespace Go.H

def runN {S E : Type} (step : S → Option (S ⊕ E)) : Nat → S → Option E
  | 0, _ => none
  | n + 1, s => (step s).bind fun r => match r with
    | .inl s' => runN step n s'
    | .inr e => some e

theorem runN_succ {S E : Type} {step : S → Option (S ⊕ E)} : ∀ (n : Nat) (s : S) (e : E), runN step n s = some e → runN step (n + 1) s = some e
  | 0, _, _, h => by simp [runN] at h
  | n + 1, s, e, h => by
    rw [runN] at h ⊢
    obtain ⟨r, hr, h⟩ := Option.bind_eq_some_iff.1 h
    rw [hr]
    cases r with
    | inl s' => exact runN_succ n s' e h
    | inr x => exact h

theorem runN_add {S E : Type} {step : S → Option (S ⊕ E)} (n : Nat) {s : S} {e : E} (h : runN step n s = some e) : ∀ m, runN step (n + m) s = some e
  | 0 => h
  | m + 1 => runN_succ _ _ _ (runN_add n h m)

theorem runN_one {S E : Type} {step : S → Option (S ⊕ E)} {n m : Nat} {s : S} {e e' : E} (h : runN step n s = some e) (h' : runN step m s = some e') : e = e' := by
  have h1 := runN_add n h m
  have h2 := runN_add m h' n
  rw [Nat.add_comm, h1] at h2
  exact Option.some.inj h2

open Classical in
noncomputable def loopF {S E : Type} (step : S → Option (S ⊕ E)) (s : S) : Option E :=
  if h : ∃ e n, runN step n s = some e then some h.choose else none

theorem loopF_of {S E : Type} {step : S → Option (S ⊕ E)} {n : Nat} {s : S} {e : E} (h : runN step n s = some e) : loopF step s = some e := by
  have hx : ∃ e n, runN step n s = some e := ⟨e, n, h⟩
  unfold loopF
  rw [dif_pos hx]
  obtain ⟨m, hm⟩ := hx.choose_spec
  exact congrArg some (runN_one hm h)

theorem loopF_run {S E : Type} {step : S → Option (S ⊕ E)} {s : S} {e : E} (h : loopF step s = some e) : ∃ n, runN step n s = some e := by
  unfold loopF at h
  split at h
  · rename_i hx
    obtain ⟨m, hm⟩ := hx.choose_spec
    exact ⟨m, by rw [hm]; exact h⟩
  · cases h

theorem loopF_next {S E : Type} {step : S → Option (S ⊕ E)} {s s' : S} (h : step s = some (.inl s')) : loopF step s = loopF step s' := by
  cases hl : loopF step s' with
  | some e =>
    obtain ⟨n, hn⟩ := loopF_run hl
    exact loopF_of (n := n + 1) (by rw [runN, h]; exact hn)
  | none =>
    cases hl2 : loopF step s with
    | none => rfl
    | some e =>
      obtain ⟨n, hn⟩ := loopF_run hl2
      cases n with
      | zero => simp [runN] at hn
      | succ n =>
        rw [runN, h] at hn
        have := loopF_of (n := n) (s := s') hn
        rw [hl] at this
        cases this

theorem loopF_stop {S E : Type} {step : S → Option (S ⊕ E)} {s : S} {e : E} (h : step s = some (.inr e)) : loopF step s = some e :=
  loopF_of (n := 1) (by rw [runN, h]; rfl)

/-- a loop by a measure -/
theorem loopF_meas {S E : Type} {step : S → Option (S ⊕ E)} (I : S → Prop) (R : E → Prop) (μ : S → Nat)
    (h : ∀ s, I s → (∃ s', step s = some (.inl s') ∧ I s' ∧ μ s' < μ s) ∨ (∃ e, step s = some (.inr e) ∧ R e)) : ∀ s, I s → ∃ e, loopF step s = some e ∧ R e := by
  intro s hs
  generalize hn : μ s = n
  induction n using Nat.strongRecOn generalizing s with
  | _ n ih =>
    rcases h s hs with ⟨s', h1, h2, h3⟩ | ⟨e, h1, h2⟩
    · obtain ⟨e, he, hr⟩ := ih (μ s') (by omega) s' h2 rfl
      exact ⟨e, by rw [loopF_next h1]; exact he, hr⟩
    · exact ⟨e, loopF_stop h1, h2⟩

/-- wrapping -/
abbrev w64 (x : Int) : Int := (x + 9223372036854775808) % 18446744073709551616 - 9223372036854775808
end Go.H

/- Frames told in part, a judgement on code over them, its rules. -/
namespace Go.H
open Go

abbrev Heap := Array Obj

structure Same (w w' : World) : Prop where
  tape : w'.tape = w.tape
  os : w'.os = w.os
  output : w'.output = w.output

theorem Same.refl (w : World) : Same w w := ⟨rfl, rfl, rfl⟩
theorem Same.trans {a b c : World} (h : Same a b) (k : Same b c) : Same a c :=
  ⟨k.tape.trans h.tape, k.os.trans h.os, k.output.trans h.output⟩
theorem Same.drawn (w : World) (n : Nat) : Same w { w with drawn := n } := ⟨rfl, rfl, rfl⟩

abbrev Fr := List (Nat × Value)

def Fr.get : Fr → Nat → Option Value
  | [], _ => none
  | (t, v) :: r, s => bif Nat.beq t s then some v else Fr.get r s

def Fr.ev (φ : Fr) : Operand → Option Value
  | .tmp t => φ.get t
  | .const v => some v
  | .global g => some (.pointer (some ⟨g, 0, none⟩))
  | .func f => some (.func (.func f) #[] #[])

structure Ok (N : Nat) (φ : Fr) (a : Act) : Prop where
  defers : a.defers = []
  size : a.tmps.size = N
  slot : ∀ t v, φ.get t = some v → a.tmps[t]? = some v

theorem Ok.eval {N : Nat} {φ : Fr} {a : Act} (h : Ok N φ a) {x : Operand} {v : Value} (hx : φ.ev x = some v) : a.eval x = v := by
  cases x with
  | tmp t => simp [Act.eval, h.slot t v hx]
  | const u => simpa [Fr.ev, Act.eval] using hx
  | global g => simpa [Fr.ev, Act.eval] using hx
  | func f => simpa [Fr.ev, Act.eval] using hx

theorem Ok.put {N : Nat} {φ : Fr} {a : Act} (h : Ok N φ a) {d : Nat} (hd : d < N) (v : Value) : Ok N ((d, v) :: φ) (a.put (some d) v) := by
  refine ⟨h.defers, by simp [Act.put, h.size], fun t u ht => ?_⟩
  simp only [Fr.get] at ht
  by_cases e : d = t
  · subst e
    have : Nat.beq d d = true := by simp
    simp only [this, cond_true, Option.some.injEq] at ht
    subst ht
    have : d < a.tmps.size := by rw [h.size]; exact hd
    simp [Act.put, this]
  · have : Nat.beq d t = false := by
      cases hb : Nat.beq d t
      · rfl
      · exact absurd (Nat.eq_of_beq_eq_true hb) e
    simp only [this, cond_false] at ht
    have := h.slot t u ht
    simp [Act.put, Array.getElem?_setIfInBounds_ne e, this]

theorem Ok.none {N : Nat} {φ : Fr} {a : Act} (h : Ok N φ a) (v : Value) : Ok N φ (a.put none v) := h

/-- all that 'ψ' tells is told by 'φ' -/
def Fr.sub : Fr → Fr → Prop
  | [], _ => True
  | p :: r, φ => φ.get p.1 = some p.2 ∧ Fr.sub r φ

theorem Fr.get_of_sub {ψ φ : Fr} (h : Fr.sub ψ φ) {t : Nat} {v : Value} (ht : ψ.get t = some v) : φ.get t = some v := by
  induction ψ with
  | nil => simp [Fr.get] at ht
  | cons p r ih =>
    obtain ⟨h1, h2⟩ := h
    simp only [Fr.get] at ht
    cases hb : Nat.beq p.1 t with
    | true =>
      rw [hb] at ht
      simp only [cond_true, Option.some.injEq] at ht
      have e := Nat.eq_of_beq_eq_true hb
      rw [← e, ← ht]; exact h1
    | false =>
      rw [hb] at ht
      exact ih h2 ht

theorem Ok.sub {N : Nat} {φ ψ : Fr} {a : Act} (h : Ok N φ a) (hs : Fr.sub ψ φ) : Ok N ψ a :=
  ⟨h.defers, h.size, fun _ _ ht => h.slot _ _ (Fr.get_of_sub hs ht)⟩

/-- a post on told frames and heaps, as one on frames and worlds -/
def Lift (w0 : World) (N : Nat) (Q : Exit → Fr → Heap → Prop) : Exit → Act → World → Prop :=
  fun e a w => Same w0 w ∧ ∃ φ, Ok N φ a ∧ Q e φ w.heap

/-- from every frame that is as told, and every world with this heap -/
def W (P : Program) (N : Nat) (c : Code) (Q : Exit → Fr → Heap → Prop) (φ : Fr) (h : Heap) : Prop :=
  ∀ w0 a w, Same w0 w → w.heap = h → Ok N φ a → c.wp P (Lift w0 N Q) a w

/-- what follows a normal end -/
def thn (P : Program) (N : Nat) (y : Code) (Q : Exit → Fr → Heap → Prop) (e : Exit) (φ : Fr) (h : Heap) : Prop :=
  match e with
  | .normal => W P N y Q φ h
  | e => Q e φ h

section
variable {P : Program} {N : Nat} {Q : Exit → Fr → Heap → Prop} {φ : Fr} {h : Heap}

theorem W.sub {c : Code} {ψ : Fr} (hs : Fr.sub ψ φ) (H : W P N c Q ψ h) : W P N c Q φ h :=
  fun w0 a w hs' hw ho => H w0 a w hs' hw (ho.sub hs)

theorem W.mono {c : Code} {Q' : Exit → Fr → Heap → Prop} (H : W P N c Q φ h) (hq : ∀ e φ h, Q e φ h → Q' e φ h) : W P N c Q' φ h :=
  fun w0 a w hs hw ho => Code.wp_mono (fun _ _ _ ⟨h1, φ', h2, h3⟩ => ⟨h1, φ', h2, hq _ _ _ h3⟩) (H w0 a w hs hw ho)

theorem W.skip (H : Q .normal φ h) : W P N .skip Q φ h :=
  fun _ _ _ hs hw ho => wp_skip ⟨hs, φ, ho, hw ▸ H⟩
theorem W.exit {id : Nat} (H : Q (.exit id) φ h) : W P N (.exit id) Q φ h :=
  fun _ _ _ hs hw ho => wp_exit ⟨hs, φ, ho, hw ▸ H⟩
theorem W.ret (H : Q .ret φ h) : W P N .ret Q φ h :=
  fun _ _ _ hs hw ho => wp_ret ⟨hs, φ, ho, hw ▸ H⟩
theorem W.label {l : Nat} (H : Q .normal φ h) : W P N (.label l) Q φ h :=
  fun _ _ _ hs hw ho => wp_label ⟨hs, φ, ho, hw ▸ H⟩

theorem W.seq {x y : Code} (H : W P N x (thn P N y Q) φ h) : W P N (.seq x y) Q φ h := by
  intro w0 a w hs hw ho
  refine wp_seq (Code.wp_mono ?_ (H w0 a w hs hw ho))
  rintro e a' w' ⟨h1, φ', h2, h3⟩
  cases e with
  | normal => exact h3 w0 a' w' h1 rfl h2
  | exit id => exact ⟨h1, φ', h2, h3⟩
  | goto l => exact ⟨h1, φ', h2, h3⟩
  | ret => exact ⟨h1, φ', h2, h3⟩
  | panic c => exact ⟨h1, φ', h2, h3⟩
  | outgrown => exact ⟨h1, φ', h2, h3⟩

theorem W.cond {c : Operand} {x y : Code} {t : Bool} (hc : φ.ev c = some (.bool t)) (ht : t = true → W P N x Q φ h) (hf : t = false → W P N y Q φ h) :
    W P N (.cond c x y) Q φ h := by
  intro w0 a w hs hw ho
  exact wp_cond_split (ho.eval hc) (fun e => ht e w0 a w hs hw ho) (fun e => hf e w0 a w hs hw ho)

theorem W.condT {c : Operand} {x y : Code} {t : Bool} (hc : φ.ev c = some (.bool t)) (e : t = true) (H : W P N x Q φ h) : W P N (.cond c x y) Q φ h :=
  W.cond hc (fun _ => H) (fun e' => by rw [e] at e'; cases e')
theorem W.condF {c : Operand} {x y : Code} {t : Bool} (hc : φ.ev c = some (.bool t)) (e : t = false) (H : W P N y Q φ h) : W P N (.cond c x y) Q φ h :=
  W.cond hc (fun e' => by rw [e] at e'; cases e') (fun _ => H)

/-- a block's end -/
def blk (id : Nat) (Q : Exit → Fr → Heap → Prop) (e : Exit) (φ : Fr) (h : Heap) : Prop :=
  match e with
  | .exit id' => bif Nat.beq id' id then Q .normal φ h else Q (.exit id') φ h
  | e => Q e φ h

theorem W.block {id : Nat} {c : Code} (H : W P N c (blk id Q) φ h) : W P N (.block id c) Q φ h := by
  intro w0 a w hs hw ho
  refine wp_block (Code.wp_mono ?_ (H w0 a w hs hw ho))
  rintro e a' w' ⟨h1, φ', h2, h3⟩
  cases e with
  | normal => exact ⟨h1, φ', h2, h3⟩
  | exit id' =>
    simp only [Exit.inBlock]
    simp only [blk] at h3
    cases hb : Nat.beq id' id with
    | true =>
      rw [hb] at h3
      rw [if_pos (Nat.eq_of_beq_eq_true hb)]
      exact ⟨h1, φ', h2, h3⟩
    | false =>
      rw [hb] at h3
      rw [if_neg (fun e => by rw [e] at hb; simp at hb)]
      exact ⟨h1, φ', h2, h3⟩
  | goto l => exact ⟨h1, φ', h2, h3⟩
  | ret => exact ⟨h1, φ', h2, h3⟩
  | panic c => exact ⟨h1, φ', h2, h3⟩
  | outgrown => exact ⟨h1, φ', h2, h3⟩

/-- some rounds of a loop -/
def WR (P : Program) (N : Nat) (c : Code) (Q : Exit → Fr → Heap → Prop) : Nat → Fr → Heap → Prop
  | 0, _, _ => False
  | n + 1, φ, h => W P N c (fun e φ h => match e with | .normal => WR P N c Q n φ h | e => Q e φ h) φ h

theorem rounds_of_WR {c : Code} (n : Nat) : ∀ φ h, WR P N c Q n φ h → ∀ w0 a w, Same w0 w → w.heap = h → Ok N φ a → Code.rounds P c (Lift w0 N Q) n a w := by
  induction n with
  | zero => intro φ h H; exact H.elim
  | succ n ih =>
    intro φ h H w0 a w hs hw ho
    rw [rounds_succ]
    refine Code.wp_mono ?_ (H w0 a w hs hw ho)
    rintro e a' w' ⟨h1, φ', h2, h3⟩
    cases e with
    | normal => exact ih φ' _ h3 w0 a' w' h1 rfl h2
    | exit id => exact ⟨h1, φ', h2, h3⟩
    | goto l => exact ⟨h1, φ', h2, h3⟩
    | ret => exact ⟨h1, φ', h2, h3⟩
    | panic c => exact ⟨h1, φ', h2, h3⟩
    | outgrown => exact ⟨h1, φ', h2, h3⟩

theorem W.loop {c : Code} (n : Nat) (H : WR P N c Q n φ h) : W P N (.loop c) Q φ h :=
  fun w0 a w hs hw ho => wp_loop_rounds n (rounds_of_WR n φ h H w0 a w hs hw ho)

theorem WR.succ {c : Code} {n : Nat} (H : W P N c (fun e φ h => match e with | .normal => WR P N c Q n φ h | e => Q e φ h) φ h) : WR P N c Q (n + 1) φ h := H

/-! ### regions -/

/-- operations in order -/
def RL (P : Program) (N : Nat) (ops : Array Oper) (Q : Exit → Fr → Heap → Prop) (l : List Oper) (φ : Fr) (h : Heap) : Prop :=
  ∀ w0 a w, Same w0 w → w.heap = h → Ok N φ a → wpList P ops (Lift w0 N Q) l a w

theorem W.region {id : Nat} {l : List Oper} (H : RL P N l.toArray Q l φ h) : W P N (.region id l.toArray false) Q φ h :=
  fun w0 a w hs hw ho => wp_region_lit (H w0 a w hs hw ho)

theorem RL.nil {ops : Array Oper} (H : Q .normal φ h) : RL P N ops Q [] φ h :=
  fun _ _ _ hs hw ho => wpList_nil ⟨hs, φ, ho, hw ▸ H⟩

theorem RL.sub {ops : Array Oper} {l : List Oper} {ψ : Fr} (hs : Fr.sub ψ φ) (H : RL P N ops Q l ψ h) : RL P N ops Q l φ h :=
  fun w0 a w hs' hw ho => H w0 a w hs' hw (ho.sub hs)

/-- what one operation gives: a value, in a heap -/
def OpV (P : Program) (φ : Fr) (o : Oper) (h : Heap) (K : Value → Heap → Prop) : Prop :=
  ∀ (a : Act) (w : World), (∀ x v, φ.ev x = some v → a.eval x = v) → w.heap = h →
    (∃ v w', (execOp a.eval o).run P w = .ok (.value v) w' ∧ Same w w' ∧ K v w'.heap) ∨
    (∃ w', (execOp a.eval o).run P w = .ok .skip w' ∧ Same w w' ∧ K undef w'.heap) ∨
    (∃ f args w', (execOp a.eval o).run P w = .ok (.enter f args) w' ∧ Same w w' ∧
      Calls P f args w' fun e w'' => ∃ v, e = .returned v ∧ Same w' w'' ∧ K v w''.heap)

theorem OpV.mono {o : Oper} {K K' : Value → Heap → Prop} (H : OpV P φ o h K) (hk : ∀ v h, K v h → K' v h) : OpV P φ o h K' := by
  intro a w hev hw
  rcases H a w hev hw with ⟨v, w', h1, h2, h3⟩ | ⟨w', h1, h2, h3⟩ | ⟨f, args, w', h1, h2, h3⟩
  · exact .inl ⟨v, w', h1, h2, hk _ _ h3⟩
  · exact .inr (.inl ⟨w', h1, h2, hk _ _ h3⟩)
  · exact .inr (.inr ⟨f, args, w', h1, h2, h3.mono fun _ _ ⟨v, e, s, k⟩ => ⟨v, e, s, hk _ _ k⟩⟩)

theorem OpV.wp {o : Oper} {K : Value → Heap → Prop} (H : OpV P φ o h K) {a : Act} {w w0 : World} (ho : Ok N φ a) (hw : w.heap = h) (hs : Same w0 w)
    {next : Act → World → Prop} {Q' : Exit → Act → World → Prop} (hn : ∀ v w', Same w0 w' → K v w'.heap → next (a.put o.dst v) w') : o.wp P a w next Q' := by
  unfold Oper.wp
  rcases H a w (fun x v => ho.eval) hw with ⟨v, w', h1, h2, h3⟩ | ⟨w', h1, h2, h3⟩ | ⟨f, args, w', h1, h2, h3⟩
  · rw [h1]; exact hn v w' (hs.trans h2) h3
  · rw [h1]; exact hn undef w' (hs.trans h2) h3
  · rw [h1]
    refine Calls.mono h3 ?_
    rintro e w'' ⟨v, rfl, s, k⟩
    exact hn v w'' ((hs.trans h2).trans s) k

/-- one operation that has no guard, and a destination -/
theorem RL.op {ops : Array Oper} {d : Nat} {op : Op} {ty : TypeId} {ps : String} {af : Array Edge} {l : List Oper} (K : Value → Heap → Prop)
    (hd : d < N) (H : OpV P φ { dst := some d, op := op, type := ty, pos := ps, after := af, guard := none } h K)
    (hn : ∀ v h', K v h' → RL P N ops Q l ((d, v) :: φ) h') :
    RL P N ops Q ({ dst := some d, op := op, type := ty, pos := ps, after := af, guard := none } :: l) φ h := by
  intro w0 a w hs hw ho
  refine wpList_plain rfl fun K' hK' => H.wp ho hw hs fun v w' hs' hk => hK' _ _ ?_
  exact hn v _ hk w0 _ w' hs' rfl (ho.put hd v)

/-- one without a destination (a store) -/
theorem RL.op0 {ops : Array Oper} {op : Op} {ty : TypeId} {ps : String} {af : Array Edge} {l : List Oper} (K : Value → Heap → Prop)
    (H : OpV P φ { dst := none, op := op, type := ty, pos := ps, after := af, guard := none } h K)
    (hn : ∀ v h', K v h' → RL P N ops Q l φ h') :
    RL P N ops Q ({ dst := none, op := op, type := ty, pos := ps, after := af, guard := none } :: l) φ h := by
  intro w0 a w hs hw ho
  refine wpList_plain rfl fun K' hK' => H.wp ho hw hs fun v w' hs' hk => hK' _ _ ?_
  exact hn v _ hk w0 _ w' hs' rfl ho
end
end Go.H

/- Regions that draw their order: what each operation gives, told by a property of the value alone. -/
namespace Go.H
open Go

structure Ext (h h' : Heap) : Prop where
  size : h.size ≤ h'.size
  blk : ∀ b, b < h.size → h'[b]? = h[b]?

theorem Ext.refl (h : Heap) : Ext h h := ⟨Nat.le_refl _, fun _ _ => rfl⟩
theorem Ext.trans {a b c : Heap} (x : Ext a b) (y : Ext b c) : Ext a c :=
  ⟨Nat.le_trans x.size y.size, fun k hk => (y.blk k (Nat.lt_of_lt_of_le hk x.size)).trans (x.blk k hk)⟩

/-- how a heap may go on -/
structure Pre (E : Heap → Heap → Prop) : Prop where
  refl : ∀ h, E h h
  trans : ∀ {a b c}, E a b → E b c → E a c
theorem Pre.ext : Pre Ext := ⟨Ext.refl, Ext.trans⟩
theorem Pre.eq : Pre (fun a b : Heap => a = b) := ⟨fun _ => rfl, fun h k => h.trans k⟩

def dstOf (ops : List Oper) (i : Nat) : Option Nat := (ops[i]?).bind (·.dst)

def depsOf (ops : List Oper) (i : Nat) : List Nat :=
  match ops[i]? with
  | some o => (o.after.toList.filter (fun e => Region.binds .any e)).map (·.on)
  | none => []

def closeDown (ops : List Oper) : Nat → List Nat → List Nat
  | 0, s => s
  | k + 1, s => closeDown ops k (if s.contains k then depsOf ops k ++ s else s)

def bodyOK (N : Nat) (ops : List Oper) (nb : Nat) : Bool :=
  (List.range nb).all fun i => match ops[i]? with
    | none => false
    | some o =>
      (match o.dst with | some d => decide (d < N) | none => false) && (depsOf ops i).all (fun e => decide (e < i)) &&
      (List.range nb).all (fun j => j == i || dstOf ops j != o.dst) &&
      (o.looksAt ops.toArray).all (fun t => (List.range nb).all fun j => dstOf ops j != some t || (depsOf ops i).contains j)

def tailOK (ops : List Oper) (nb : Nat) : Bool :=
  (List.range (ops.length - nb)).all fun k => (depsOf ops (nb + k)).all (fun e => decide (e < nb + k)) &&
    (List.range (nb + k)).all (fun i => (closeDown ops (nb + k) (depsOf ops (nb + k))).contains i)

def clearB (ops : List Oper) (nb : Nat) (φ : Fr) : Bool := φ.all fun p => (List.range nb).all fun j => dstOf ops j != some p.1

def nthS : List (Value → Heap → Prop) → Nat → Value → Heap → Prop
  | [], _ => fun _ _ => False
  | s :: _, 0 => s
  | _ :: r, n + 1 => nthS r n

def StableL (E : Heap → Heap → Prop) : List (Value → Heap → Prop) → Prop
  | [] => True
  | s :: r => (∀ v h h', s v h → E h h' → s v h') ∧ StableL E r

theorem StableL.eq : ∀ (l : List (Value → Heap → Prop)), StableL (fun a b => a = b) l
  | [] => trivial
  | _ :: r => ⟨fun _ _ _ h e => e ▸ h, StableL.eq r⟩

theorem StableL.nth {E : Heap → Heap → Prop} : ∀ {l : List (Value → Heap → Prop)} (_ : StableL E l) (i : Nat) {v : Value} {h h' : Heap}, nthS l i v h → E h h' → nthS l i v h'
  | [], _, _, _, _, _, h, _ => h.elim
  | _ :: _, hl, 0, _, _, _, h, e => hl.1 _ _ _ h e
  | _ :: _, hl, n + 1, _, _, _, h, e => hl.2.nth n h e

def Dep (ops : List Oper) (S : Nat → Value → Heap → Prop) (h : Heap) : List Nat → Fr → (Fr → Prop) → Prop
  | [], φ, K => K φ
  | j :: js, φ, K => match dstOf ops j with
    | some d => ∀ v, S j v h → Dep ops S h js ((d, v) :: φ) K
    | none => Dep ops S h js φ K

/-- an operation behind its guard -/
def GuardOK (P : Program) (ops : List Oper) (φ : Fr) (o : Oper) (h : Heap) (K : Value → Heap → Prop) : Prop :=
  match o.guard with
  | none => OpV P φ o h K
  | some (j, want) => match dstOf ops j with
    | some t => (∃ b, φ.get t = some (.bool b) ∧ (b = want → OpV P φ o h K) ∧ (b ≠ want → K undef h)) ∨ (φ.get t = some undef ∧ K undef h)
    | none => False

theorem Dep.nil {ops : List Oper} {S : Nat → Value → Heap → Prop} {h : Heap} {φ : Fr} {K : Fr → Prop} (H : K φ) : Dep ops S h [] φ K := H
theorem GuardOK.none {P : Program} {ops : List Oper} {φ : Fr} {o : Oper} {h : Heap} {K : Value → Heap → Prop} (hg : o.guard = .none) (H : OpV P φ o h K) : GuardOK P ops φ o h K := by
  unfold GuardOK; rw [hg]; exact H
theorem GuardOK.some {P : Program} {ops : List Oper} {φ : Fr} {o : Oper} {h : Heap} {K : Value → Heap → Prop} {j t : Nat} {want b : Bool} (hg : o.guard = .some (j, want)) (hj : dstOf ops j = .some t) (ht : φ.get t = .some (.bool b)) (hb : b = want) (H : OpV P φ o h K) : GuardOK P ops φ o h K := by
  unfold GuardOK; rw [hg]; simp only [hj]; exact .inl ⟨b, ht, fun _ => H, fun hn => absurd hb hn⟩
theorem GuardOK.pass {P : Program} {ops : List Oper} {φ : Fr} {o : Oper} {h : Heap} {K : Value → Heap → Prop} {j t : Nat} {want b : Bool} (hg : o.guard = .some (j, want)) (hj : dstOf ops j = .some t) (ht : φ.get t = .some (.bool b)) (hb : b = !want) (H : K undef h) : GuardOK P ops φ o h K := by
  unfold GuardOK; rw [hg]; simp only [hj]
  exact .inl ⟨b, ht, fun hn => by rw [hb] at hn; cases want <;> simp at hn, fun _ => H⟩
theorem GuardOK.passU {P : Program} {ops : List Oper} {φ : Fr} {o : Oper} {h : Heap} {K : Value → Heap → Prop} {j t : Nat} {want : Bool} (hg : o.guard = .some (j, want)) (hj : dstOf ops j = .some t) (ht : φ.get t = .some undef) (H : K undef h) : GuardOK P ops φ o h K := by
  unfold GuardOK; rw [hg]; simp only [hj]
  exact .inr ⟨ht, H⟩

def Steps (E : Heap → Heap → Prop) (P : Program) (ops : List Oper) (φ : Fr) (h : Heap) (S : Nat → Value → Heap → Prop) : Nat → List (List Nat) → List Oper → Prop
  | _, [], _ => True
  | i, ds :: dr, o :: r =>
    (ds.all (fun j => (depsOf ops i).contains j) = true ∧ ∀ h', E h h' → Dep ops S h' ds φ (fun φ' => GuardOK P ops φ' o h' (fun v h'' => E h' h'' ∧ S i v h''))) ∧
    Steps E P ops φ h S (i + 1) dr r
  | _, _ :: _, [] => False

theorem Steps.nth {E : Heap → Heap → Prop} {P : Program} {ops : List Oper} {φ : Fr} {h : Heap} {S : Nat → Value → Heap → Prop} :
    ∀ {i : Nat} {dl : List (List Nat)} {l : List Oper}, Steps E P ops φ h S i dl l → ∀ k ds, dl[k]? = some ds →
      ∃ o, l[k]? = some o ∧ ds.all (fun j => (depsOf ops (i + k)).contains j) = true ∧ ∀ h', E h h' → Dep ops S h' ds φ (fun φ' => GuardOK P ops φ' o h' (fun v h'' => E h' h'' ∧ S (i + k) v h''))
  | _, [], _, _, k, ds, hk => by simp at hk
  | i, ds :: dr, o :: r, H, 0, ds', hk => by
    simp only [List.getElem?_cons_zero, Option.some.injEq] at hk
    subst hk
    exact ⟨o, rfl, H.1.1, H.1.2⟩
  | i, ds :: dr, o :: r, H, k + 1, ds', hk => by
    obtain ⟨o', h1, h2, h3⟩ := Steps.nth H.2 k ds' (by simpa using hk)
    have e : i + 1 + k = i + (k + 1) := by omega
    rw [e] at h2 h3
    exact ⟨o', by simpa using h1, h2, h3⟩
  | _, _ :: _, [], H, _, _, _ => H.elim

/-! the run -/

def cnt (l : List Bool) : Nat := l.count false

theorem cnt_set : ∀ (l : List Bool) (i : Nat), l[i]? = some false → cnt (l.set i true) + 1 = cnt l
  | [], i, h => by simp at h
  | b :: l, 0, h => by simp at h; subst h; simp [cnt]
  | b :: l, i + 1, h => by
    have := cnt_set l i (by simpa using h)
    simp only [cnt, List.set_cons_succ, List.count_cons] at this ⊢
    omega

theorem cnt_zero {l : List Bool} (h : cnt l = 0) (i : Nat) (hi : i < l.length) : l[i]? = some true := by
  have := List.count_eq_zero.1 h
  rw [List.getElem?_eq_getElem hi]
  cases hb : l[i] with
  | true => rfl
  | false => exact absurd (hb ▸ List.getElem_mem hi) this

theorem getD_true_of {listed : Array Bool} {i : Nat} (h : listed.getD i false = true) : listed.getD i true = true := by
  by_cases hi : i < listed.size
  · simpa [hi] using h
  · simp [hi]

theorem getD_lt {listed : Array Bool} {i : Nat} (h : listed.getD i false = true) : i < listed.size := by
  by_cases hi : i < listed.size
  · exact hi
  · simp [hi] at h

section
variable {P : Program} {N : Nat} {Q : Exit → Fr → Heap → Prop} {ops : List Oper}

/-- whatever is listed, all that it waits for is -/
def Down (ops : List Oper) (listed : Array Bool) : Prop := ∀ i, listed.getD i false = true → ∀ e ∈ depsOf ops i, listed.getD e false = true

theorem closeDown_listed {listed : Array Bool} (hd : Down ops listed) : ∀ (k : Nat) (s : List Nat), (∀ i ∈ s, listed.getD i false = true) → ∀ i ∈ closeDown ops k s, listed.getD i false = true
  | 0, _, hs => hs
  | k + 1, s, hs => by
    unfold closeDown
    refine closeDown_listed hd k _ ?_
    split
    · rename_i hk
      intro i hi
      rcases List.mem_append.1 hi with h | h
      · exact hd k (hs k (by simpa using hk)) i h
      · exact hs i h
    · exact hs

theorem ready_deps {listed : Array Bool} {i : Nat} (hi : i ∈ Region.ready .any ops.toArray listed) : listed.getD i true = false ∧ i < ops.length ∧ ∀ e ∈ depsOf ops i, listed.getD e false = true := by
  obtain ⟨h0, o, ho, hall⟩ := mem_ready.1 hi
  have ho' : ops[i]? = some o := by simpa using ho
  refine ⟨h0, (List.getElem?_eq_some_iff.1 ho').1, fun e he => ?_⟩
  unfold depsOf at he
  rw [ho'] at he
  simp only [List.mem_map, List.mem_filter] at he
  obtain ⟨x, ⟨hx, hb⟩, rfl⟩ := he
  exact hall x (by simpa using hx) hb

theorem ready_of {listed : Array Bool} {i : Nat} (h0 : listed.getD i true = false) (hi : i < ops.length) (hd : ∀ e ∈ depsOf ops i, listed.getD e false = true) : i ∈ Region.ready .any ops.toArray listed := by
  refine mem_ready.2 ⟨h0, ops[i], by simp [hi], fun e he hb => hd _ ?_⟩
  unfold depsOf
  rw [List.getElem?_eq_getElem hi]
  simp only [List.mem_map, List.mem_filter]
  exact ⟨e, ⟨by simpa using he, hb⟩, rfl⟩

theorem down_set {listed : Array Bool} {i : Nat} (hd : Down ops listed) (hi : ∀ e ∈ depsOf ops i, listed.getD e false = true) : Down ops (listed.setIfInBounds i true) := by
  intro j hj e he
  have keep : ∀ k, listed.getD k false = true → (listed.setIfInBounds i true).getD k false = true := by
    intro k hk
    have := getD_lt hk
    by_cases hik : i = k
    · subst hik; simp [this]
    · simp [Array.getElem?_setIfInBounds_ne hik] at hk ⊢; exact hk
  by_cases hij : i = j
  · subst hij; exact keep e (hi e he)
  · refine keep e (hd j ?_ e he)
    simpa [Array.getElem?_setIfInBounds_ne hij] using hj

/-- first k listed, no other -/
def Upto (k : Nat) (listed : Array Bool) : Prop := ∀ i, i < listed.size → (listed.getD i false = true ↔ i < k)

theorem tail_any {nb : Nat} (hT : tailOK ops nb = true) (Qw : Exit → Act → World → Prop) : ∀ (m k : Nat) (listed : Array Bool) (a : Act) (w : World), nb ≤ k → k + m = ops.length → listed.size = ops.length → Upto k listed → Down ops listed →
    wpList P ops.toArray Qw (ops.drop k) a w → wpAny P .any ops.toArray Qw m listed a w := by
  intro m
  induction m with
  | zero =>
    intro k listed a w hk hm hs hu _ H
    have hn : Region.ready .any ops.toArray listed = [] := by
      refine List.eq_nil_iff_forall_not_mem.2 fun i hi => ?_
      obtain ⟨h1, h2, _⟩ := ready_deps hi
      have := (hu i (by omega)).2 (by omega)
      have := getD_true_of this
      rw [h1] at this; cases this
    refine ⟨hn, ?_⟩
    rw [List.drop_eq_nil_of_le (by omega)] at H
    exact H
  | succ m ih =>
    intro k listed a w hk hm hs hu hd H
    have hT' := List.all_eq_true.1 hT (k - nb) (by simp; omega)
    rw [show nb + (k - nb) = k from by omega, Bool.and_eq_true] at hT'
    have hdep : ∀ e ∈ depsOf ops k, listed.getD e false = true := fun e he => by
      have := List.all_eq_true.1 hT'.1 e he
      have := of_decide_eq_true this
      exact (hu e (by omega)).2 this
    have hk0 : listed.getD k true = false := by
      have hlt : k < listed.size := by omega
      have h1 : ¬ listed.getD k false = true := fun h => by have := (hu k hlt).1 h; omega
      simp [hlt] at h1 ⊢
      exact h1
    have hr : k ∈ Region.ready .any ops.toArray listed := ready_of hk0 (by omega) hdep
    refine ⟨fun h => (by rw [h] at hr; cases hr), fun i hi => ?_⟩
    obtain ⟨h1, h2, h3⟩ := ready_deps hi
    have hik : i = k := by
      have hi1 : ¬ i < k := fun hlt => by
        have := getD_true_of ((hu i (by omega)).2 hlt)
        rw [h1] at this; cases this
      have hi2 : ¬ k < i := fun hlt => by
        have hTi := List.all_eq_true.1 hT (i - nb) (by simp; omega)
        rw [show nb + (i - nb) = i from by omega, Bool.and_eq_true] at hTi
        have := List.all_eq_true.1 hTi.2 k (by simp; omega)
        have := closeDown_listed hd i (depsOf ops i) h3 k (by simpa using this)
        have := (hu k (by omega)).1 this
        omega
      omega
    subst hik
    rw [List.drop_eq_getElem_cons h2] at H
    unfold wpOp
    have hl' : ops.toArray[i]? = some ops[i] := by simp
    rw [hl']
    simp only [wpList] at H
    have next : ∀ a w, wpList P ops.toArray Qw (ops.drop (i + 1)) a w → wpAny P .any ops.toArray Qw m (listed.setIfInBounds i true) a w := by
      intro a w H
      refine ih (i + 1) _ a w (by omega) (by omega) (by simp [hs]) ?_ (down_set hd h3) H
      intro j hj
      have hj' : j < listed.size := by simpa using hj
      by_cases hij : i = j
      · subst hij; simp [hj']
      · have := hu j hj'
        simp only [Array.getD_eq_getD_getElem?, Array.getElem?_setIfInBounds_ne hij] at this ⊢
        rw [this]; omega
    by_cases hw : Region.wanted ops[i] (yielded ops.toArray a.tmps) = true
    · rw [if_pos hw] at H
      simp only [hw, if_true]
      exact H.imp (Oper.wp_mono next) id
    · rw [if_neg hw] at H
      simp only [hw]
      exact next _ _ H

/-- what is known while the first nb operations run -/
structure Inv (E : Heap → Heap → Prop) (N : Nat) (ops : List Oper) (nb : Nat) (S : Nat → Value → Heap → Prop) (φ : Fr) (h : Heap) (w0 : World) (listed : Array Bool) (a : Act) (w : World) : Prop where
  defers : a.defers = []
  size : a.tmps.size = N
  same : Same w0 w
  ext : E h w.heap
  len : listed.size = ops.length
  down : Down ops listed
  notail : ∀ i, nb ≤ i → listed.getD i false = false
  vals : ∀ i d, listed.getD i false = true → dstOf ops i = some d → ∃ v, a.tmps[d]? = some v ∧ S i v w.heap
  base : ∀ t v, φ.get t = some v → a.tmps[t]? = some v

theorem Dep.run {E : Heap → Heap → Prop} {S : Nat → Value → Heap → Prop} {w0 : World} {nb : Nat} {φ : Fr} {h : Heap} {listed : Array Bool} {a : Act} {w : World} (I : Inv E N ops nb S φ h w0 listed a w) :
    ∀ (js : List Nat) (ψ : Fr) (K : Fr → Prop), (∀ j ∈ js, listed.getD j false = true) → Ok N ψ a → Dep ops S w.heap js ψ K → ∃ ψ', Ok N ψ' a ∧ K ψ'
  | [], ψ, _, _, ho, H => ⟨ψ, ho, H⟩
  | j :: js, ψ, K, hj, ho, H => by
    unfold Dep at H
    cases hd : dstOf ops j with
    | none => rw [hd] at H; exact Dep.run I js ψ K (fun k hk => hj k (List.mem_cons_of_mem _ hk)) ho H
    | some d =>
      rw [hd] at H
      obtain ⟨v, h1, h2⟩ := I.vals j d (hj j (List.mem_cons_self ..)) hd
      refine Dep.run I js ((d, v) :: ψ) K (fun k hk => hj k (List.mem_cons_of_mem _ hk)) ⟨ho.defers, ho.size, fun t u ht => ?_⟩ (H v h2)
      simp only [Fr.get] at ht
      cases hb : Nat.beq d t with
      | true =>
        rw [hb] at ht
        simp only [cond_true, Option.some.injEq] at ht
        rw [← Nat.eq_of_beq_eq_true hb, ← ht]; exact h1
      | false => rw [hb] at ht; exact ho.slot t u ht

theorem body_spec {nb : Nat} (hB : bodyOK N ops nb = true) {i : Nat} (hi : i < nb) : ∃ o d, ops[i]? = some o ∧ o.dst = some d ∧ d < N ∧ (∀ e ∈ depsOf ops i, e < i) ∧
    (∀ j, j < nb → j ≠ i → dstOf ops j ≠ some d) := by
  have := List.all_eq_true.1 hB i (by simpa using hi)
  cases ho : ops[i]? with
  | none => rw [ho] at this; cases this
  | some o =>
    rw [ho] at this
    simp only [Bool.and_eq_true] at this
    obtain ⟨⟨⟨h1, h2⟩, h3⟩, _⟩ := this
    cases hd : o.dst with
    | none => rw [hd] at h1; cases h1
    | some d =>
      rw [hd] at h1
      refine ⟨o, d, rfl, hd, of_decide_eq_true h1, fun e he => of_decide_eq_true (List.all_eq_true.1 h2 e he), fun j hj hne => ?_⟩
      have := List.all_eq_true.1 h3 j (by simpa using hj)
      rw [hd] at this
      simpa [hne] using this

theorem clear_spec {nb : Nat} {φ : Fr} (hφ : clearB ops nb φ = true) {i d : Nat} (hi : i < nb) (hd : dstOf ops i = some d) : ∀ v, φ.get d ≠ some v := by
  intro v hv
  induction φ with
  | nil => simp [Fr.get] at hv
  | cons p r ih =>
    simp only [clearB, List.all_cons, Bool.and_eq_true] at hφ
    simp only [Fr.get] at hv
    cases hb : Nat.beq p.1 d with
    | true =>
      have e := Nat.eq_of_beq_eq_true hb
      have := List.all_eq_true.1 hφ.1 i (by simpa using hi)
      rw [hd, e] at this
      simp at this
    | false => rw [hb] at hv; exact ih hφ.2 hv

theorem Inv.put {E : Heap → Heap → Prop} (hE : Pre E) {S : Nat → Value → Heap → Prop} {w0 : World} {nb : Nat} {φ : Fr} {h : Heap} {listed : Array Bool} {a : Act} {w : World} (I : Inv E N ops nb S φ h w0 listed a w)
    (hB : bodyOK N ops nb = true) (hφ : clearB ops nb φ = true) (hst : ∀ i v h h', S i v h → E h h' → S i v h')
    {i : Nat} (hi : i < nb) {o : Oper} (ho : ops[i]? = some o) (hde : ∀ e ∈ depsOf ops i, listed.getD e false = true) {v : Value} {w' : World} (hs : Same w0 w') (he : E w.heap w'.heap) (hv : S i v w'.heap) :
    Inv E N ops nb S φ h w0 (listed.setIfInBounds i true) (a.put o.dst v) w' := by
  obtain ⟨o', d, ho', hd, hdN, _, huniq⟩ := body_spec hB hi
  rw [ho] at ho'
  cases ho'
  have hdi : dstOf ops i = some d := by simp [dstOf, ho, hd]
  rw [hd]
  refine ⟨I.defers, by simp [Act.put, I.size], hs, hE.trans I.ext he, by simp [I.len], down_set I.down hde, fun k hk => ?_, fun k e hk hke => ?_, fun t u ht => ?_⟩
  · have := I.notail k hk
    simpa [Array.getElem?_setIfInBounds_ne (show i ≠ k by omega)] using this
  · by_cases hik : i = k
    · subst hik
      rw [hdi] at hke
      cases hke
      refine ⟨v, ?_, hv⟩
      have : d < a.tmps.size := by rw [I.size]; exact hdN
      simp [Act.put, this]
    · have hk' : listed.getD k false = true := by simpa [Array.getElem?_setIfInBounds_ne hik] using hk
      have hkn : k < nb := by
        rcases Nat.lt_or_ge k nb with h | h
        · exact h
        · have := I.notail k h; rw [this] at hk'; cases hk'
      obtain ⟨u, h1, h2⟩ := I.vals k e hk' hke
      have hne : d ≠ e := fun x => huniq k hkn (Ne.symm hik) (x ▸ hke)
      exact ⟨u, by simpa [Act.put, Array.getElem?_setIfInBounds_ne hne] using h1, hst _ _ _ _ h2 he⟩
  · have hne : d ≠ t := fun x => clear_spec hφ hi hdi u (x ▸ ht)
    simpa [Act.put, Array.getElem?_setIfInBounds_ne hne] using I.base t u ht

theorem body_any {E : Heap → Heap → Prop} (hE : Pre E) {dl : List (List Nat)} {Sl : List (Value → Heap → Prop)} {φ : Fr} {h : Heap} {w0 : World} {Qw : Exit → Act → World → Prop}
    (hB : bodyOK N ops dl.length = true) (hT : tailOK ops dl.length = true) (hφ : clearB ops dl.length φ = true) (hln : dl.length ≤ ops.length)
    (stable : StableL E Sl) (steps : Steps E P ops φ h (nthS Sl) 0 dl ops)
    (fin' : ∀ listed a w, Inv E N ops dl.length (nthS Sl) φ h w0 listed a w → (∀ i, i < dl.length → listed.getD i false = true) → wpList P ops.toArray Qw (ops.drop dl.length) a w) :
    ∀ (m : Nat) (listed : Array Bool) (a : Act) (w : World), cnt listed.toList = m → Inv E N ops dl.length (nthS Sl) φ h w0 listed a w → wpAny P .any ops.toArray Qw m listed a w := by
  intro m
  induction m with
  | zero =>
    intro listed a w hc I
    have hall : ∀ i, i < ops.length → listed.getD i false = true := fun i hi => by
      have := cnt_zero hc i (by simpa [I.len] using hi)
      have : listed[i]? = some true := by simpa using this
      simp [this]
    refine tail_any hT Qw 0 ops.length listed a w hln (by omega) I.len (fun i hi => ⟨fun _ => by have := I.len; omega, fun _ => hall i (by have := I.len; omega)⟩) I.down ?_
    have := fin' listed a w I (fun i hi => hall i (by omega))
    rcases Nat.lt_or_ge dl.length ops.length with hlt | hge
    · have h1 := I.notail dl.length (Nat.le_refl _)
      rw [hall _ hlt] at h1; cases h1
    · rw [List.drop_eq_nil_of_le hge] at this
      rw [List.drop_eq_nil_of_le (Nat.le_refl _)]
      exact this
  | succ m ih =>
    intro listed a w hc I
    by_cases hall : ∀ i, i < dl.length → listed.getD i false = true
    · have hu : Upto dl.length listed := by
        intro i _
        refine ⟨fun h1 => ?_, hall i⟩
        rcases Nat.lt_or_ge i dl.length with h | h
        · exact h
        · have := I.notail i h
          rw [this] at h1
          cases h1
      have hm : dl.length + (m + 1) = ops.length := by
        have hsplit : cnt listed.toList = ops.length - dl.length := by
          have e : listed.toList = List.replicate dl.length true ++ List.replicate (ops.length - dl.length) false := by
            refine List.ext_getElem? fun i => ?_
            rcases Nat.lt_or_ge i ops.length with hi | hi
            · have hsz : i < listed.size := by rw [I.len]; exact hi
              rcases Nat.lt_or_ge i dl.length with h | h
              · have := hall i h
                simp only [hsz, Array.getD_eq_getD_getElem?, Array.getElem?_eq_getElem, Option.getD_some] at this
                simp [List.getElem?_append, h, hsz, this]
              · have := I.notail i h
                simp only [hsz, Array.getD_eq_getD_getElem?, Array.getElem?_eq_getElem, Option.getD_some] at this
                rw [List.getElem?_append_right (by simpa using h)]
                simp only [Array.getElem?_toList, hsz, Array.getElem?_eq_getElem, this, List.length_replicate, List.getElem?_replicate]
                rw [if_pos (by omega)]
            · have hsz : ¬ i < listed.size := by rw [I.len]; omega
              rw [List.getElem?_eq_none (by simp; omega), List.getElem?_eq_none (by simp; omega)]
          rw [e]
          simp [cnt, List.count_append, List.count_replicate]
        omega
      exact tail_any hT Qw (m + 1) dl.length listed a w (Nat.le_refl _) hm I.len hu I.down (fin' listed a w I hall)
    · have hne : ∃ i, i < dl.length ∧ listed.getD i false = false ∧ ∀ k, k < i → listed.getD k false = true := by
        have hex : ∃ i, i < dl.length ∧ listed.getD i false = false := by
          refine Classical.byContradiction fun hno => hall fun i hi => ?_
          cases hb : listed.getD i false with
          | true => rfl
          | false => exact absurd ⟨i, hi, hb⟩ hno
        obtain ⟨i, hi⟩ := hex
        induction i using Nat.strongRecOn with
        | _ i ihi =>
          by_cases hk : ∀ k, k < i → listed.getD k false = true
          · exact ⟨i, hi.1, hi.2, hk⟩
          · have : ∃ k, k < i ∧ listed.getD k false = false := by
              refine Classical.byContradiction fun hno => hk fun k hki => ?_
              cases hb : listed.getD k false with
              | true => rfl
              | false => exact absurd ⟨k, hki, hb⟩ hno
            obtain ⟨k, hki, hkf⟩ := this
            exact ihi k hki ⟨by omega, hkf⟩
      obtain ⟨i0, hi0, hf0, hlow⟩ := hne
      obtain ⟨o0, d0, ho0, _, _, hdep0, _⟩ := body_spec hB hi0
      have hi0l : i0 < ops.length := (List.getElem?_eq_some_iff.1 ho0).1
      have hr0 : i0 ∈ Region.ready .any ops.toArray listed := ready_of (by
        have : i0 < listed.size := by rw [I.len]; exact hi0l
        simp only [this, Array.getD_eq_getD_getElem?, Array.getElem?_eq_getElem, Option.getD_some] at hf0 ⊢; exact hf0) hi0l (fun e he => hlow e (hdep0 e he))
      refine ⟨fun h => (by rw [h] at hr0; cases hr0), fun i hi => ?_⟩
      obtain ⟨h1, h2, h3⟩ := ready_deps hi
      have hib : i < dl.length := by
        refine Classical.byContradiction fun hge => ?_
        have hTi := List.all_eq_true.1 hT (i - dl.length) (by simp; omega)
        rw [show dl.length + (i - dl.length) = i from by omega, Bool.and_eq_true] at hTi
        have := List.all_eq_true.1 hTi.2 i0 (by simp; omega)
        have := closeDown_listed I.down i (depsOf ops i) h3 i0 (by simpa using this)
        rw [hf0] at this; cases this
      obtain ⟨o, d, ho, hd, hdN, _, _⟩ := body_spec hB hib
      obtain ⟨o', ho', hsub, hstep⟩ := steps.nth i dl[i] (List.getElem?_eq_getElem hib)
      rw [ho] at ho'
      cases ho'
      simp only [Nat.zero_add] at hsub hstep
      have hokφ : Ok N φ a := ⟨I.defers, I.size, I.base⟩
      obtain ⟨ψ, hψ, hG⟩ := Dep.run I dl[i] φ _ (fun j hj => h3 j (by simpa using List.all_eq_true.1 hsub j hj)) hokφ (hstep w.heap I.ext)
      have hcn : cnt (listed.setIfInBounds i true).toList = m := by
        have hlt : i < listed.size := by rw [I.len]; exact h2
        have hfl : listed.toList[i]? = some false := by
          simp only [hlt, Array.getD_eq_getD_getElem?, Array.getElem?_eq_getElem, Option.getD_some] at h1
          simp [hlt, h1]
        have := cnt_set listed.toList i hfl
        rw [Array.toList_setIfInBounds]
        omega
      have next : ∀ v w', Same w0 w' → E w.heap w'.heap → nthS Sl i v w'.heap → wpAny P .any ops.toArray Qw m (listed.setIfInBounds i true) (a.put o.dst v) w' := fun v w' hs he hv =>
        ih _ _ _ hcn (I.put hE hB hφ (fun k _ _ _ => stable.nth k) hib ho h3 hs he hv)
      unfold wpOp
      have ho2 : ops.toArray[i]? = some o := by simpa using ho
      rw [ho2]
      simp only
      unfold GuardOK at hG
      cases hg : o.guard with
      | none =>
        rw [hg] at hG
        rw [if_pos (by simp [Region.wanted, hg])]
        exact .inl (OpV.wp hG hψ rfl I.same fun v w' hs hk => next v w' hs hk.1 hk.2)
      | some gw =>
        obtain ⟨j, want⟩ := gw
        rw [hg] at hG
        simp only at hG
        cases hdj : dstOf ops j with
        | none => rw [hdj] at hG; exact hG.elim
        | some t =>
          rw [hdj] at hG
          rcases hG with ⟨b, hb, hyes, hno⟩ | ⟨hu, hK⟩
          case inr =>
            have hy : yielded ops.toArray a.tmps j = none := by
              unfold yielded
              have : (ops.toArray[j]?).bind (·.dst) = some t := by simpa [dstOf] using hdj
              rw [this]
              simp [hψ.slot t _ hu, undef]
            rw [if_neg (by simp [Region.wanted, hg, hy])]
            exact next undef w I.same hK.1 hK.2
          have hy : yielded ops.toArray a.tmps j = some b := by
            unfold yielded
            have : (ops.toArray[j]?).bind (·.dst) = some t := by simpa [dstOf] using hdj
            rw [this]
            simp [hψ.slot t _ hb]
          by_cases hbw : b = want
          · rw [if_pos (by simp [Region.wanted, hg, hy, hbw])]
            exact .inl (OpV.wp (hyes hbw) hψ rfl I.same fun v w' hs hk => next v w' hs hk.1 hk.2)
          · rw [if_neg (by simp [Region.wanted, hg, hy, hbw])]
            obtain ⟨he, hv⟩ := hno hbw
            exact next undef w I.same he hv

theorem W.regionE {E : Heap → Heap → Prop} (hE : Pre E) {id : Nat} {φ : Fr} {h : Heap} (Sl : List (Value → Heap → Prop)) (dl : List (List Nat)) (js : List Nat) (hm : P.follows .mixedOrders = true)
    (hB : bodyOK N ops dl.length = true) (hT : tailOK ops dl.length = true) (hφ : clearB ops dl.length φ = true) (hjs : js.all (fun j => decide (j < dl.length)) = true) (hln : Nat.ble dl.length ops.length = true)
    (stable : StableL E Sl) (steps : Steps E P ops φ h (nthS Sl) 0 dl ops)
    (fin : ∀ h', E h h' → Dep ops (nthS Sl) h' js φ (fun φ' => RL P N ops.toArray Q (ops.drop dl.length) φ' h')) : W P N (.region id ops.toArray true) Q φ h := by
  intro w0 a w hs hw ho
  have hl := Nat.le_of_ble_eq_true hln
  refine wp_region_any hm (body_any hE (w0 := w0) (h := h) hB hT hφ hl stable steps ?_ _ _ _ _ ?_ ?_)
  · intro listed a' w' I hall
    obtain ⟨ψ, hψ, hG⟩ := Dep.run I js φ _ (fun j hj => hall j (of_decide_eq_true (List.all_eq_true.1 hjs j hj))) ⟨I.defers, I.size, I.base⟩ (fin w'.heap I.ext)
    exact hG w0 a' w' I.same rfl hψ
  · simp [cnt]
  · exact ⟨ho.defers, ho.size, hs.trans (Same.drawn ..), by show E h w.heap; rw [hw]; exact hE.refl _, by simp, fun i hi => by
      by_cases hlt : i < ops.length <;> simp [hlt] at hi, fun i _ => by
      by_cases hlt : i < ops.length <;> simp [hlt], fun i d hi => by
      by_cases hlt : i < ops.length <;> simp [hlt] at hi, ho.slot⟩

theorem W.regionS {id : Nat} {φ : Fr} {h : Heap} (Sl : List (Value → Heap → Prop)) (dl : List (List Nat)) (js : List Nat) (hm : P.follows .mixedOrders = true)
    (hB : bodyOK N ops dl.length = true) (hT : tailOK ops dl.length = true) (hφ : clearB ops dl.length φ = true) (hjs : js.all (fun j => decide (j < dl.length)) = true) (hln : Nat.ble dl.length ops.length = true)
    (stable : StableL Ext Sl) (steps : Steps Ext P ops φ h (nthS Sl) 0 dl ops)
    (fin : ∀ h', Ext h h' → Dep ops (nthS Sl) h' js φ (fun φ' => RL P N ops.toArray Q (ops.drop dl.length) φ' h')) : W P N (.region id ops.toArray true) Q φ h :=
  W.regionE Pre.ext Sl dl js hm hB hT hφ hjs hln stable steps fin

/-- the same where no operation turns the heap -/
theorem W.regionP {id : Nat} {φ : Fr} {h : Heap} (Sl : List (Value → Heap → Prop)) (dl : List (List Nat)) (js : List Nat) (hm : P.follows .mixedOrders = true)
    (hB : bodyOK N ops dl.length = true) (hT : tailOK ops dl.length = true) (hφ : clearB ops dl.length φ = true) (hjs : js.all (fun j => decide (j < dl.length)) = true) (hln : Nat.ble dl.length ops.length = true)
    (steps : Steps (fun a b => a = b) P ops φ h (nthS Sl) 0 dl ops)
    (fin : Dep ops (nthS Sl) h js φ (fun φ' => RL P N ops.toArray Q (ops.drop dl.length) φ' h)) : W P N (.region id ops.toArray true) Q φ h :=
  W.regionE Pre.eq Sl dl js hm hB hT hφ hjs hln (StableL.eq Sl) steps (fun _ e => e ▸ fin)

theorem OpV.toD {φ : Fr} {o : Oper} {h : Heap} {u : Value} {S : Value → Heap → Prop} (H : OpV P φ o h (fun v h' => u = v ∧ h = h')) (hs : S u h) : OpV P φ o h (fun v h' => h = h' ∧ S v h') :=
  H.mono fun _ _ ⟨e1, e2⟩ => ⟨e2, e1 ▸ e2 ▸ hs⟩
theorem OpV.toS {φ : Fr} {o : Oper} {h : Heap} {T S : Value → Heap → Prop} (H : OpV P φ o h (fun v h' => T v h' ∧ h = h')) (hs : ∀ v, T v h → S v h) : OpV P φ o h (fun v h' => h = h' ∧ S v h') :=
  H.mono fun v _ ⟨t, e⟩ => ⟨e, e ▸ hs v (e ▸ t)⟩

theorem OpV.toDx {φ : Fr} {o : Oper} {h : Heap} {u : Value} {S : Value → Heap → Prop} (H : OpV P φ o h (fun v h' => u = v ∧ h = h')) (hs : S u h) : OpV P φ o h (fun v h' => Ext h h' ∧ S v h') :=
  H.mono fun _ _ ⟨e1, e2⟩ => ⟨e2 ▸ Ext.refl _, e1 ▸ e2 ▸ hs⟩
theorem OpV.toSx {φ : Fr} {o : Oper} {h : Heap} {T S : Value → Heap → Prop} (H : OpV P φ o h (fun v h' => T v h' ∧ h = h')) (hs : ∀ v, T v h → S v h) : OpV P φ o h (fun v h' => Ext h h' ∧ S v h') :=
  H.mono fun v _ ⟨t, e⟩ => ⟨e ▸ Ext.refl _, e ▸ hs v (e ▸ t)⟩
end
end Go.H

/- What single operations give. -/
namespace Go.H
open Go

/-! ### numbers -/

/-- a float's bits, all not-a-numbers alike -/
def cls (k : FloatKind) (b : Nat) : Option Nat := if (k.format.read b).isNaN then none else some b

def IsF (k : FloatKind) (v : Value) (x : Option Nat) : Prop := ∃ b, v = .float k b ∧ b < 2 ^ k.format.width ∧ cls k b = x

def fop (op : BinOp) (k : FloatKind) (x y : Option Nat) : Option Nat := x.bind fun a => y.bind fun b => floatBits op k a b
def ford (k : FloatKind) (x y : Option Nat) : Option Ordering := x.bind fun a => y.bind fun b => k.format.order a b
def feq (k : FloatKind) (x y : Option Nat) : Bool := ford k x y == some .eq
def flt (k : FloatKind) (x y : Option Nat) : Bool := ford k x y == some .lt
def fle (k : FloatKind) (x y : Option Nat) : Bool := ford k x y == some .lt || ford k x y == some .eq
def fneg (k : FloatKind) (x : Option Nat) : Option Nat := x.map (Op.negFloat k)
def fofi (k : FloatKind) (n : Int) : Option Nat := some (k.nearest n)
/-- a conversion: outside: nothing told (too great); inside: not-a-number -/
def fcv (s d : FloatKind) (x : Option Nat) : Option (Option Nat) :=
  match x with
  | none => some none
  | some b => (floatToFloatBits s b d).map some
def ftoi (s : FloatKind) (k : IntKind) (x : Option Nat) : Option Int := x.bind fun b => floatToIntVal s b k

theorem datum_nan {d : Ieee.Datum} (h : d.isNaN = true) : ∃ s t, d = .nan s t := by
  cases d <;> simp [Ieee.Datum.isNaN] at h
  exact ⟨_, _, rfl⟩

theorem not_nan_write (f : Ieee.Format) {d : Ieee.Datum} (h : d.isNaN = false) : (f.read (f.write d)).isNaN = false := by
  have key : ∀ (neg : Bool) (r : Nat), r ≤ f.infRung → (f.read (f.word neg r)).isNaN = false := by
    intro neg r hr
    have hlt := f.infRung_lt
    have h1 : f.word neg r % f.signWeight = r := by
      unfold Ieee.Format.word
      split
      · rw [Nat.add_mod_left, Nat.mod_eq_of_lt (by omega)]
      · exact Nat.mod_eq_of_lt (by omega)
    unfold Ieee.Format.read
    simp only [h1]
    split
    · rfl
    · split
      · rfl
      · split
        · rfl
        · omega
  cases d with
  | number neg mag place =>
    show (f.read (f.nearest neg mag place)).isNaN = false
    unfold Ieee.Format.nearest
    dsimp only
    split
    · exact key neg 0 (Nat.zero_le _)
    · exact key neg _ (Nat.min_le_right ..)
  | infinity neg => exact key neg _ (Nat.le_refl _)
  | nan s t => simp [Ieee.Datum.isNaN] at h

theorem read_nan_none {k : FloatKind} {b : Nat} : cls k b = none ↔ (k.format.read b).isNaN = true := by
  unfold cls; split <;> simp_all
theorem cls_some {k : FloatKind} {b r : Nat} : cls k b = some r ↔ r = b ∧ (k.format.read b).isNaN = false := by
  unfold cls
  split
  · rename_i h; simp [h]
  · rename_i h
    simp at h
    simp [h, eq_comm]

theorem cls_write (k : FloatKind) {d : Ieee.Datum} (h : d.isNaN = false) : cls k (k.format.write d) = some (k.format.write d) :=
  cls_some.2 ⟨rfl, not_nan_write _ h⟩

theorem sum_nan {a b d : Ieee.Datum} (h : a.sum b = some d) : d.isNaN = false ∧ a.isNaN = false ∧ b.isNaN = false := by
  cases a <;> cases b <;> simp only [Ieee.Datum.sum] at h <;> try (cases h; done)
  all_goals (first | (split at h <;> cases h <;> simp [Ieee.Datum.isNaN]; done) | (cases h; simp [Ieee.Datum.isNaN]))

theorem product_nan {a b d : Ieee.Datum} (h : a.product b = some d) : d.isNaN = false ∧ a.isNaN = false ∧ b.isNaN = false := by
  cases a <;> cases b <;> simp only [Ieee.Datum.product] at h <;> try (cases h; done)
  all_goals (first | (split at h <;> cases h <;> simp [Ieee.Datum.isNaN]; done) | (cases h; simp [Ieee.Datum.isNaN]))

theorem quotient_nan {n : Nat} {a b d : Ieee.Datum} (h : a.quotient n b = some d) : d.isNaN = false ∧ a.isNaN = false ∧ b.isNaN = false := by
  cases a <;> cases b <;> simp only [Ieee.Datum.quotient] at h <;> try (cases h; done)
  all_goals (repeat' split at h) <;> first | (cases h; done) | (cases h; simp [Ieee.Datum.isNaN])

theorem opposite_nan (a : Ieee.Datum) : a.opposite.isNaN = a.isNaN := by cases a <;> rfl

theorem map_write {f : Ieee.Format} {d : Option Ieee.Datum} {r : Nat} (h : d.map f.write = some r) : ∃ e, d = some e ∧ r = f.write e := by
  cases d with
  | none => cases h
  | some e => cases h; exact ⟨e, rfl, rfl⟩

theorem floatBits_nan {op : BinOp} {k : FloatKind} {x y r : Nat} (h : floatBits op k x y = some r) : (k.format.read r).isNaN = false ∧ (k.format.read x).isNaN = false ∧ (k.format.read y).isNaN = false := by
  have w := fun {d : Ieee.Datum} (hd : d.isNaN = false) => not_nan_write k.format hd
  unfold floatBits at h
  split at h
  · obtain ⟨e, h1, rfl⟩ := map_write h
    obtain ⟨a, b, c⟩ := sum_nan h1
    exact ⟨w a, b, c⟩
  · obtain ⟨e, h1, rfl⟩ := map_write h
    obtain ⟨a, b, c⟩ := sum_nan h1
    rw [opposite_nan] at c
    exact ⟨w a, b, c⟩
  · obtain ⟨e, h1, rfl⟩ := map_write h
    obtain ⟨a, b, c⟩ := product_nan h1
    exact ⟨w a, b, c⟩
  · obtain ⟨e, h1, rfl⟩ := map_write h
    obtain ⟨a, b, c⟩ := quotient_nan h1
    exact ⟨w a, b, c⟩
  · cases h

theorem fop_cls (op : BinOp) (k : FloatKind) (a b : Nat) : fop op k (cls k a) (cls k b) = floatBits op k a b := by
  unfold fop
  cases h : floatBits op k a b with
  | some r =>
    obtain ⟨_, h2, h3⟩ := floatBits_nan h
    rw [cls_some.2 ⟨rfl, h2⟩, cls_some.2 ⟨rfl, h3⟩]
    exact h
  | none =>
    cases ha : cls k a with
    | none => rfl
    | some x =>
      cases hb : cls k b with
      | none => rfl
      | some y =>
        have := (cls_some.1 ha).1
        have := (cls_some.1 hb).1
        subst_vars
        exact h

theorem nan_cut (x y t : Nat) (k : FloatKind) (q : Question) (hq : q = .nanBits k x y ∨ q = .nanConv k x) : q.cut t < 2 ^ k.format.width ∧ cls k (q.cut t) = none := by
  cases k with
  | f32 =>
    have e : q.cut t = t % 2 * 2147483648 + 2139095040 + 1 + t / 2 % 8388607 := by rcases hq with rfl | rfl <;> rfl
    rw [e]
    have h1 : t % 2 < 2 := Nat.mod_lt _ (by decide)
    have h2 : t / 2 % 8388607 < 8388607 := Nat.mod_lt _ (by decide)
    generalize t % 2 = a at *
    generalize t / 2 % 8388607 = c at *
    refine ⟨by show _ < 2 ^ 32; omega, read_nan_none.2 ?_⟩
    have hs : Ieee.single.signWeight = 2147483648 := by decide
    have hb : Ieee.single.binade = 8388608 := by decide
    have hi : Ieee.single.infRung = 2139095040 := by decide
    show (Ieee.single.read _).isNaN = true
    unfold Ieee.Format.read
    simp only [hs, hb, hi]
    rw [if_neg (by omega), if_neg (by omega), if_neg (by omega)]
    rfl
  | f64 =>
    have e : q.cut t = t % 2 * 9223372036854775808 + 9218868437227405312 + 1 + t / 2 % 4503599627370495 := by rcases hq with rfl | rfl <;> rfl
    rw [e]
    have h1 : t % 2 < 2 := Nat.mod_lt _ (by decide)
    have h2 : t / 2 % 4503599627370495 < 4503599627370495 := Nat.mod_lt _ (by decide)
    generalize t % 2 = a at *
    generalize t / 2 % 4503599627370495 = c at *
    refine ⟨by show _ < 2 ^ 64; omega, read_nan_none.2 ?_⟩
    have hs : Ieee.double.signWeight = 9223372036854775808 := by decide
    have hb : Ieee.double.binade = 4503599627370496 := by decide
    have hi : Ieee.double.infRung = 9218868437227405312 := by decide
    show (Ieee.double.read _).isNaN = true
    unfold Ieee.Format.read
    simp only [hs, hb, hi]
    rw [if_neg (by omega), if_neg (by omega), if_neg (by omega)]
    rfl

theorem floatBits_lt {op : BinOp} {k : FloatKind} {x y r : Nat} (h : floatBits op k x y = some r) : r < 2 ^ k.format.width := by
  unfold floatBits at h
  split at h
  · exact k.format.add_lt h
  · exact k.format.sub_lt h
  · exact k.format.mul_lt h
  · exact k.format.div_lt h
  · cases h

/-! ### operations -/
section
variable {P : Program} {φ : Fr} {h : Heap} {o : Oper}

abbrev Det (u : Value) (h : Heap) : Value → Heap → Prop := fun v h' => u = v ∧ h = h'

/-- an operation whose run is a value's, in the world that it got, whatever world that is -/
theorem opv_val {u : Value} {ρ : (Operand → Value) → Sem Value} (ho : ∀ r, execOp r o = (do pure (Next.value (← ρ r)))) (hr : ∀ (a : Act) (w : World), (∀ x v, φ.ev x = some v → a.eval x = v) → w.heap = h → (ρ a.eval).run P w = .ok u w) :
    OpV P φ o h (Det u h) := by
  intro a w hev hw
  refine .inl ⟨u, w, ?_, Same.refl w, rfl, hw.symm⟩
  rw [ho]
  have := hr a w hev hw
  simp [this]

theorem opv_move {x : Operand} {v : Value} (ho : o.op = .move x) (hx : φ.ev x = some v) : OpV P φ o h (Det v h) := by
  intro a w hev hw
  exact .inl ⟨v, w, by simp [execOp, ho, hev x v hx], Same.refl w, rfl, hw.symm⟩

theorem opv_assign {x : Operand} {v : Value} (ho : o.op = .assign x) (hx : φ.ev x = some v) : OpV P φ o h (Det v h) := by
  intro a w hev hw
  exact .inl ⟨v, w, by simp [execOp, ho, hev x v hx], Same.refl w, rfl, hw.symm⟩

theorem opv_pick {c x y : Operand} {b : Bool} {u v : Value} (ho : o.op = .pick c x y) (hc : φ.ev c = some (.bool b)) (hx : b = true → φ.ev x = some u) (hy : b = false → φ.ev y = some u) (hv : v = u) : OpV P φ o h (Det v h) := by
  intro a w hev hw
  subst hv
  refine .inl ⟨v, w, ?_, Same.refl w, rfl, hw.symm⟩
  cases b with
  | true => simp [execOp, ho, hev c _ hc, hev x v (hx rfl), asBool]
  | false => simp [execOp, ho, hev c _ hc, hev y v (hy rfl), asBool]

def arith (op : BinOp) (x y : Int) : Int := match op with | .add => x + y | .sub => x - y | .mul => x * y | _ => 0

theorem opv_int {op : BinOp} {t t' : TypeId} {x y : Operand} {k : IntKind} {m n : Int} (ho : o.op = .binOp op t x y t') (hop : op = .add ∨ op = .sub ∨ op = .mul) (hx : φ.ev x = some (.int k m)) (hy : φ.ev y = some (.int k n)) :
    OpV P φ o h (Det (.int k (k.wrap (arith op m n))) h) := by
  intro a w hev hw
  refine .inl ⟨_, w, ?_, Same.refl w, rfl, hw.symm⟩
  rcases hop with rfl | rfl | rfl <;> simp [execOp, ho, hev x _ hx, hev y _ hy, eqGuard, binOp, Op.intArith, arith]

theorem opv_add {t t' : TypeId} {x y : Operand} {k : IntKind} {m n : Int} (ho : o.op = .binOp .add t x y t') (hx : φ.ev x = some (.int k m)) (hy : φ.ev y = some (.int k n)) : OpV P φ o h (Det (.int k (k.wrap (m + n))) h) := opv_int ho (.inl rfl) hx hy
theorem opv_sub {t t' : TypeId} {x y : Operand} {k : IntKind} {m n : Int} (ho : o.op = .binOp .sub t x y t') (hx : φ.ev x = some (.int k m)) (hy : φ.ev y = some (.int k n)) : OpV P φ o h (Det (.int k (k.wrap (m - n))) h) := opv_int ho (.inr (.inl rfl)) hx hy
theorem opv_mul {t t' : TypeId} {x y : Operand} {k : IntKind} {m n : Int} (ho : o.op = .binOp .mul t x y t') (hx : φ.ev x = some (.int k m)) (hy : φ.ev y = some (.int k n)) : OpV P φ o h (Det (.int k (k.wrap (m * n))) h) := opv_int ho (.inr (.inr rfl)) hx hy

theorem opv_quo {t t' : TypeId} {x y : Operand} {k : IntKind} {m n : Int} (ho : o.op = .binOp .quo t x y t') (hn : n ≠ 0) (hx : φ.ev x = some (.int k m)) (hy : φ.ev y = some (.int k n)) : OpV P φ o h (Det (.int k (k.wrap (m.tdiv n))) h) := by
  intro a w hev hw
  exact .inl ⟨_, w, by simp [execOp, ho, hev x _ hx, hev y _ hy, eqGuard, binOp, Op.intDiv, hn], Same.refl w, rfl, hw.symm⟩
theorem opv_rem {t t' : TypeId} {x y : Operand} {k : IntKind} {m n : Int} (ho : o.op = .binOp .rem t x y t') (hn : n ≠ 0) (hx : φ.ev x = some (.int k m)) (hy : φ.ev y = some (.int k n)) : OpV P φ o h (Det (.int k (m.tmod n)) h) := by
  intro a w hev hw
  exact .inl ⟨_, w, by simp [execOp, ho, hev x _ hx, hev y _ hy, eqGuard, binOp, Op.intDiv, hn], Same.refl w, rfl, hw.symm⟩

/-- a comparison of integers -/
def icmp (op : BinOp) (m n : Int) : Bool := match op with
  | .eql => m == n | .neq => m != n | .lss => decide (m < n) | .leq => decide (m ≤ n) | .gtr => decide (m > n) | .geq => decide (m ≥ n) | _ => false
theorem opv_icmp {op : BinOp} {t t' : TypeId} {x y : Operand} {k : IntKind} {m n : Int} (ho : o.op = .binOp op t x y t') (hop : (match op with | .eql | .neq | .lss | .leq | .gtr | .geq => true | _ => false) = true) (hx : φ.ev x = some (.int k m)) (hy : φ.ev y = some (.int k n)) :
    OpV P φ o h (Det (.bool (icmp op m n)) h) := by
  intro a w hev hw
  refine .inl ⟨_, w, ?_, Same.refl w, rfl, hw.symm⟩
  cases op <;> simp at hop <;> simp [execOp, ho, hev x _ hx, hev y _ hy, eqGuard, binOp, Op.intCmp, icmp]

theorem opv_not {t : TypeId} {x : Operand} {b : Bool} (ho : o.op = .unOp .not t x) (hx : φ.ev x = some (.bool b)) : OpV P φ o h (Det (.bool (!b)) h) := by
  intro a w hev hw
  exact .inl ⟨_, w, by simp [execOp, ho, hev x _ hx, Op.unary], Same.refl w, rfl, hw.symm⟩
theorem opv_ineg {t : TypeId} {x : Operand} {k : IntKind} {n : Int} (ho : o.op = .unOp .neg t x) (hx : φ.ev x = some (.int k n)) : OpV P φ o h (Det (.int k (k.wrap (0 - n))) h) := by
  intro a w hev hw
  exact .inl ⟨_, w, by simp [execOp, ho, hev x _ hx, Op.unary, Op.intArith], Same.refl w, rfl, hw.symm⟩

abbrev Flt (k : FloatKind) (x : Option Nat) (h : Heap) : Value → Heap → Prop := fun v h' => IsF k v x ∧ h = h'

theorem Same.drew (w : World) : Same w w.drew := ⟨rfl, rfl, rfl⟩

theorem isF_bits {k : FloatKind} {r : Nat} (hr : r < 2 ^ k.format.width) (hn : (k.format.read r).isNaN = false) : IsF k (.float k r) (some r) := ⟨r, rfl, hr, cls_some.2 ⟨rfl, hn⟩⟩

theorem opv_fop {op : BinOp} {t t' : TypeId} {x y : Operand} {k : FloatKind} {u v : Value} {m n : Option Nat} (ho : o.op = .binOp op t x y t') (hop : (match op with | .add | .sub | .mul | .quo => true | _ => false) = true) (hx : φ.ev x = some u) (hy : φ.ev y = some v)
    (hu : IsF k u m) (hv : IsF k v n) : OpV P φ o h (Flt k (fop op k m n) h) := by
  intro a w hev hw
  obtain ⟨b, rfl, _, rfl⟩ := hu
  obtain ⟨c, rfl, _, rfl⟩ := hv
  rw [fop_cls]
  cases hb : floatBits op k b c with
  | some r =>
    refine .inl ⟨.float k r, w, ?_, Same.refl w, isF_bits (floatBits_lt hb) (floatBits_nan hb).1, hw.symm⟩
    have : (Op.floatArith op k b c).run P w = .ok (.float k r) w := run_floatArith w hb
    cases op <;> simp at hop <;> simp [execOp, ho, hev x _ hx, hev y _ hy, eqGuard, binOp, this]
  | none =>
    have hc := nan_cut b c (w.tape w.drawn (.nanBits k b c)) k (.nanBits k b c) (.inl rfl)
    refine .inl ⟨.float k ((Question.nanBits k b c).cut (w.tape w.drawn (.nanBits k b c))), w.drew, ?_, Same.drew w, ⟨_, rfl, hc.1, hc.2⟩, hw.symm⟩
    have : (Op.floatArith op k b c).run P w = .ok (.float k ((Question.nanBits k b c).cut (w.tape w.drawn (.nanBits k b c)))) w.drew := by
      unfold floatBits at hb
      cases op <;> simp at hop <;> simp only at hb <;> simp [Op.floatArith, hb, Question.forced]
    cases op <;> simp at hop <;> simp [execOp, ho, hev x _ hx, hev y _ hy, eqGuard, binOp, this]

theorem order_cls (k : FloatKind) (a b : Nat) : k.format.order a b = ford k (cls k a) (cls k b) := by
  unfold ford
  cases ha : cls k a with
  | none =>
    have := read_nan_none.1 ha
    obtain ⟨s, t, e⟩ := datum_nan this
    simp [Ieee.Format.order, e, Ieee.Datum.order]
  | some x =>
    have hx := (cls_some.1 ha).1
    cases hb : cls k b with
    | none =>
      have := read_nan_none.1 hb
      obtain ⟨s, t, e⟩ := datum_nan this
      simp only [Ieee.Format.order, e]
      cases k.format.read a <;> rfl
    | some y =>
      have hy := (cls_some.1 hb).1
      subst hx; subst hy; rfl

def fcmp (op : BinOp) (k : FloatKind) (x y : Option Nat) : Bool := match op with
  | .eql => feq k x y | .neq => !feq k x y | .lss => flt k x y | .leq => fle k x y | .gtr => ford k x y == some .gt | .geq => ford k x y == some .gt || ford k x y == some .eq | _ => false

theorem opv_fcmp {op : BinOp} {t t' : TypeId} {x y : Operand} {k : FloatKind} {u v : Value} {m n : Option Nat} (ho : o.op = .binOp op t x y t') (hop : (match op with | .eql | .neq | .lss | .leq | .gtr | .geq => true | _ => false) = true) (hx : φ.ev x = some u) (hy : φ.ev y = some v)
    (hu : IsF k u m) (hv : IsF k v n) : OpV P φ o h (Det (.bool (fcmp op k m n)) h) := by
  intro a w hev hw
  obtain ⟨b, rfl, _, rfl⟩ := hu
  obtain ⟨c, rfl, _, rfl⟩ := hv
  refine .inl ⟨_, w, ?_, Same.refl w, rfl, hw.symm⟩
  cases op <;> simp at hop <;> simp [execOp, ho, hev x _ hx, hev y _ hy, eqGuard, binOp, Op.floatCmp, fcmp, feq, flt, fle, order_cls] <;> rfl

theorem negFloat_lt (k : FloatKind) {b : Nat} (hb : b < 2 ^ k.format.width) : Op.negFloat k b < 2 ^ k.format.width := by
  unfold Op.negFloat
  refine Nat.xor_lt_two_pow hb ?_
  refine Nat.pow_lt_pow_right (by decide) ?_
  unfold Ieee.Format.width
  omega

theorem read_isNaN (k : FloatKind) (b : Nat) : (k.format.read b).isNaN = decide (k.format.infRung < b % k.format.signWeight) := by
  have hb : k.format.binade ≤ k.format.infRung := by cases k <;> decide
  unfold Ieee.Format.read
  dsimp only
  split
  · rename_i h1; simp [Ieee.Datum.isNaN]; omega
  · split
    · rename_i h1; simp [Ieee.Datum.isNaN]; omega
    · split
      · rename_i h1; simp [Ieee.Datum.isNaN]; omega
      · rename_i h1 h2 h3; simp [Ieee.Datum.isNaN]; omega

theorem negFloat_mod (k : FloatKind) (b : Nat) : Op.negFloat k b % k.format.signWeight = b % k.format.signWeight := by
  unfold Op.negFloat Ieee.Format.signWeight
  rw [Nat.xor_mod_two_pow]
  simp

theorem fneg_cls (k : FloatKind) (b : Nat) : cls k (Op.negFloat k b) = fneg k (cls k b) := by
  unfold cls fneg
  rw [read_isNaN, read_isNaN, negFloat_mod]
  split <;> rfl

theorem opv_fneg {t : TypeId} {x : Operand} {k : FloatKind} {u : Value} {m : Option Nat} (ho : o.op = .unOp .neg t x) (hx : φ.ev x = some u) (hu : IsF k u m) : OpV P φ o h (Flt k (fneg k m) h) := by
  intro a w hev hw
  obtain ⟨b, rfl, hb, rfl⟩ := hu
  exact .inl ⟨_, w, by simp [execOp, ho, hev x _ hx, Op.unary], Same.refl w, ⟨_, rfl, negFloat_lt k hb, fneg_cls k b⟩, hw.symm⟩

theorem opv_i2i {src dst : TypeId} {x : Operand} {k j : IntKind} {n : Int} (ho : o.op = .convert src dst x) (hs : (P.underlying src).isSome = true) (hd : P.underlying dst = some (.int j)) (hx : φ.ev x = some (.int k n)) : OpV P φ o h (Det (.int j (j.wrap n)) h) := by
  intro a w hev hw
  obtain ⟨u, hs'⟩ := Option.isSome_iff_exists.1 hs
  refine .inl ⟨_, w, ?_, Same.refl w, rfl, hw.symm⟩
  cases u <;> simp [execOp, ho, hev x _ hx, convert, run_underlying hs', run_underlying hd, Conv.intToInt]

theorem opv_i2f {src dst : TypeId} {x : Operand} {k : IntKind} {j : FloatKind} {n : Int} (ho : o.op = .convert src dst x) (hs : (P.underlying src).isSome = true) (hd : P.underlying dst = some (.float j)) (hx : φ.ev x = some (.int k n)) : OpV P φ o h (Flt j (fofi j n) h) := by
  intro a w hev hw
  obtain ⟨u, hs'⟩ := Option.isSome_iff_exists.1 hs
  refine .inl ⟨.float j (j.nearest n), w, ?_, Same.refl w, ⟨_, rfl, j.format.write_lt (.number (n < 0) n.natAbs 0), cls_write j (d := .number (n < 0) n.natAbs 0) rfl⟩, hw.symm⟩
  cases u <;> simp [execOp, ho, hev x _ hx, convert, run_underlying hs', run_underlying hd, Conv.intToFloat]

theorem opv_f2i {src dst : TypeId} {x : Operand} {s : FloatKind} {k : IntKind} {u : Value} {m : Option Nat} {n : Int} (ho : o.op = .convert src dst x) (hs : (P.underlying src).isSome = true) (hd : P.underlying dst = some (.int k)) (hx : φ.ev x = some u) (hu : IsF s u m) (hn : ftoi s k m = some n) :
    OpV P φ o h (Det (.int k n) h) := by
  intro a w hev hw
  obtain ⟨b, rfl, _, rfl⟩ := hu
  refine .inl ⟨.int k n, w, ?_, Same.refl w, rfl, hw.symm⟩
  have : floatToIntVal s b k = some n := by
    unfold ftoi at hn
    cases hc : cls s b with
    | none => rw [hc] at hn; cases hn
    | some c => rw [hc] at hn; rw [← (cls_some.1 hc).1]; exact hn
  have h2 := run_convert_float_int (P := P) w src dst s k b n hs hd this
  simp [execOp, ho, hev x _ hx, h2]

theorem opv_f2f {src dst : TypeId} {x : Operand} {s j : FloatKind} {u : Value} {m r : Option Nat} (ho : o.op = .convert src dst x) (hs : (P.underlying src).isSome = true) (hd : P.underlying dst = some (.float j)) (hsj : s ≠ j) (hx : φ.ev x = some u) (hu : IsF s u m) (hr : fcv s j m = some r) :
    OpV P φ o h (Flt j r h) := by
  intro a w hev hw
  obtain ⟨b, rfl, hb, rfl⟩ := hu
  obtain ⟨du, hs'⟩ := Option.isSome_iff_exists.1 hs
  cases hc : cls s b with
  | none =>
    rw [hc] at hr
    simp only [fcv, Option.some.injEq] at hr
    subst hr
    obtain ⟨sg, t, e⟩ := datum_nan (read_nan_none.1 hc)
    have hcut := nan_cut b 0 (w.tape w.drawn (.nanConv j b)) j (.nanConv j b) (.inr rfl)
    refine .inl ⟨.float j ((Question.nanConv j b).cut (w.tape w.drawn (.nanConv j b))), w.drew, ?_, Same.drew w, ⟨_, rfl, hcut.1, hcut.2⟩, hw.symm⟩
    have e' : s.decode b = .nan sg t := e
    cases du <;> simp [execOp, ho, hev x _ hx, convert, run_underlying hs', run_underlying hd, Conv.floatToFloat, hsj, e', Question.forced]
  | some c =>
    have hcb := (cls_some.1 hc).1
    subst hcb
    rw [hc] at hr
    simp only [fcv] at hr
    cases hf : floatToFloatBits s c j with
    | none => rw [hf] at hr; cases hr
    | some q =>
      rw [hf] at hr
      simp only [Option.map_some, Option.some.injEq] at hr
      subst hr
      have h2 := run_convert_float_float (P := P) w src dst s j c q hs hd hf
      have hq : q < 2 ^ j.format.width ∧ (j.format.read q).isNaN = false := by
        unfold floatToFloatBits at hf
        rw [if_neg hsj] at hf
        split at hf
        · cases hf
        · cases hf; exact ⟨j.format.write_lt _, not_nan_write _ rfl⟩
        · split at hf
          · cases hf
          · cases hf; exact ⟨j.format.write_lt _, not_nan_write _ rfl⟩
      exact .inl ⟨.float j q, w, by simp [execOp, ho, hev x _ hx, h2], Same.refl w, isF_bits hq.1 hq.2, hw.symm⟩

theorem opv_same_float {src dst : TypeId} {x : Operand} {s : FloatKind} {u : Value} {m : Option Nat} (ho : o.op = .convert src dst x) (hs : (P.underlying src).isSome = true) (hd : P.underlying dst = some (.float s)) (hx : φ.ev x = some u) (hu : IsF s u m) : OpV P φ o h (Det u h) := by
  intro a w hev hw
  obtain ⟨b, rfl, hb, rfl⟩ := hu
  obtain ⟨du, hs'⟩ := Option.isSome_iff_exists.1 hs
  refine .inl ⟨.float s b, w, ?_, Same.refl w, rfl, hw.symm⟩
  cases du <;> simp [execOp, ho, hev x _ hx, convert, run_underlying hs', run_underlying hd, Conv.floatToFloat]
end
end Go.H

/- A 32-bit number is a 64-bit one. -/
namespace Go.H
open Go Ieee

theorem cut_le (way : Toward) (neg : Bool) (n drop : Nat) : way.cut neg n drop ≤ n + 1 := by
  unfold Toward.cut
  have h1 : n / (1 <<< min drop (n.log2 + 2)) ≤ n := Nat.div_le_self _ _
  have h2 : ∀ b : Bool, b.toNat ≤ 1 := fun b => by cases b <;> decide
  exact Nat.add_le_add h1 (h2 _)

theorem cut_zero (way : Toward) (neg : Bool) (n : Nat) : way.cut neg n 0 ≤ n := by
  unfold Toward.cut
  have h1 : (1 : Nat) <<< min 0 (n.log2 + 2) = 1 := by simp
  simp only [h1, Nat.div_one, Nat.mod_one]
  cases way <;> simp

/-- of a number that is not too great, the nearest 64-bit word is finite -/
theorem double_finite (neg : Bool) (m : Nat) (e : Int) (hm : m < 2 ^ 24) (he : e ≤ 104) : (double.read (double.nearest neg m e)).isInfinity = false := by
  have key : ∀ r, r < double.infRung → (double.read (double.word neg r)).isInfinity = false := by
    intro r hr
    have hs : double.signWeight = 9223372036854775808 := by decide
    have hi : double.infRung = 9218868437227405312 := by decide
    have h1 : double.word neg r % double.signWeight = r := by
      unfold Format.word
      rw [hs]; rw [hi] at hr
      split <;> omega
    unfold Format.read
    simp only [h1]
    split
    · rfl
    · rfl
  unfold Format.nearest
  split
  · exact key 0 (by decide)
  · rename_i h0
    dsimp only
    refine key _ ?_
    have hlp : double.leastPlace = -1074 := by decide
    have hfb : double.fractionBits = 52 := by decide
    have hbin : double.binade = 4503599627370496 := by decide
    have hi : double.infRung = 9218868437227405312 := by decide
    rw [hlp, hfb, hbin, hi]
    have hlog : m.log2 < 24 := (Nat.log2_lt h0).2 hm
    have hlo : m < 2 ^ (m.log2 + 1) := Nat.lt_log2_self
    generalize hL : max (e + (m.log2 : Int) - (52 : Nat)) (-1074) = last
    have hl1 : last ≤ 75 := by omega
    have hl2 : e + (m.log2 : Int) - 52 ≤ last := by omega
    have hl3 : -1074 ≤ last := by omega
    have hk : Toward.even.cut neg (m <<< (e - last).toNat) (last - e).toNat ≤ 9007199254740992 := by
      by_cases hle : last ≤ e
      · have h1 : (last - e).toNat = 0 := by omega
        rw [h1]
        refine Nat.le_trans (cut_zero _ _ _) ?_
        rw [Nat.shiftLeft_eq]
        have h2 : (e - last).toNat + (m.log2 + 1) ≤ 53 := by omega
        have h3 : m * 2 ^ (e - last).toNat ≤ 2 ^ (m.log2 + 1) * 2 ^ (e - last).toNat := Nat.mul_le_mul_right _ (Nat.le_of_lt hlo)
        rw [← Nat.pow_add] at h3
        have h4 : 2 ^ (m.log2 + 1 + (e - last).toNat) ≤ 2 ^ 53 := Nat.pow_le_pow_right (by decide) (by omega)
        have h5 : (2 : Nat) ^ 53 = 9007199254740992 := by decide
        omega
      · have h1 : (e - last).toNat = 0 := by omega
        rw [h1]
        refine Nat.le_trans (cut_le _ _ _ _) ?_
        simp only [Nat.shiftLeft_zero]
        omega
    have h6 : (last - -1074).toNat ≤ 1149 := by omega
    generalize (last - -1074).toNat = q at h6 ⊢
    generalize Toward.even.cut neg (m <<< (e - last).toNat) (last - e).toNat = k at hk ⊢
    have h7 : q * 4503599627370496 + k < 9218868437227405312 := by omega
    exact Nat.lt_of_le_of_lt (Nat.min_le_left _ _) h7

theorem single_read {b : Nat} {s : Bool} {m : Nat} {e : Int} (h : single.read b = .number s m e) : m < 2 ^ 24 ∧ e ≤ 104 := by
  have hbin : single.binade = 8388608 := by decide
  have hi : single.infRung = 2139095040 := by decide
  have hlp : single.leastPlace = -149 := by decide
  unfold Format.read at h
  dsimp only at h
  rw [hbin, hi, hlp] at h
  split at h
  · cases h; exact ⟨by omega, by omega⟩
  · split at h
    · rename_i h1
      cases h
      refine ⟨by omega, ?_⟩
      have : b % single.signWeight / 8388608 - 1 ≤ 253 := by omega
      omega
    · split at h <;> cases h

theorem widen_some {b : Nat} (hn : (single.read b).isNaN = false) : ∃ r, floatToFloatBits .f32 b .f64 = some r := by
  unfold floatToFloatBits
  rw [if_neg (by decide)]
  cases hd : FloatKind.f32.decode b with
  | nan s t =>
    have : single.read b = .nan s t := hd
    rw [this] at hn
    cases hn
  | infinity s => exact ⟨_, rfl⟩
  | number s m e =>
    obtain ⟨h1, h2⟩ := single_read (b := b) hd
    have : (FloatKind.f64.decode (FloatKind.f64.encode (.number s m e))).isInfinity = false := double_finite s m e h1 h2
    simp only [this]
    exact ⟨_, rfl⟩

end Go.H

/- Calls, by heaps. -/
namespace Go.H
open Go

def CallsH (P : Program) (f : FuncId) (args : Array Value) (h : Heap) (R : Value → Heap → Prop) : Prop :=
  ∀ w : World, w.heap = h → Calls P f args w fun e w' => ∃ v, e = .returned v ∧ Same w w' ∧ R v w'.heap

theorem CallsH.mono {P : Program} {f : FuncId} {args : Array Value} {h : Heap} {R R' : Value → Heap → Prop} (H : CallsH P f args h R) (hr : ∀ v h', R v h' → R' v h') : CallsH P f args h R' :=
  fun w hw => (H w hw).mono fun _ _ ⟨v, e, s, r⟩ => ⟨v, e, s, hr _ _ r⟩

/-- the post of a function's body -/
def Rt (P : Program) (N : Nat) (fn : Func) (R : Value → Heap → Prop) (e : Exit) (φ : Fr) (h : Heap) : Prop :=
  match e with
  | .normal | .ret => ∃ v, (∀ (a : Act) (w : World), Ok N φ a → w.heap = h → (results fn a.tmps).run P w = .ok v w) ∧ R v h
  | _ => False

def argFr : Nat → List Value → Fr
  | _, [] => []
  | k, v :: r => (k, v) :: argFr (k + 1) r

theorem argFr_get : ∀ (k : Nat) (l : List Value) (t : Nat) (v : Value), (argFr k l).get t = some v → k ≤ t ∧ l[t - k]? = some v
  | _, [], _, _, h => by simp [argFr, Fr.get] at h
  | k, u :: r, t, v, h => by
    simp only [argFr, Fr.get] at h
    cases hb : Nat.beq k t with
    | true =>
      rw [hb] at h
      have e := Nat.eq_of_beq_eq_true hb
      subst e
      simpa using h
    | false =>
      rw [hb] at h
      obtain ⟨h1, h2⟩ := argFr_get (k + 1) r t v h
      refine ⟨by omega, ?_⟩
      rw [show t - k = (t - (k + 1)) + 1 from by omega]
      simpa using h2

theorem callsH_of_W0 {P : Program} {f : FuncId} {fn : Func} {c : Code} {l : List Value} {h : Heap} {R : Value → Heap → Prop} (N : Nat)
    (hf : P.funcs[f]? = some fn) (hb : fn.body = some c) (hn : fn.ntmps = N) (hl : Nat.ble l.length N = true) (H : W P N c (Rt P N fn R) (argFr 0 l) h) : CallsH P f l.toArray h R := by
  intro w hw
  subst hn
  have hl' := Nat.le_of_ble_eq_true hl
  refine calls_of_wp hf hb (Code.wp_mono ?_ (H w _ w (Same.refl w) hw ⟨rfl, by simp; omega, fun t v ht => ?_⟩))
  · rintro e a w' ⟨hs, φ, ho, hq⟩
    cases e with
    | normal => obtain ⟨v, h1, h2⟩ := hq; exact ⟨ho.defers, v, h1 a w' ho rfl, v, rfl, hs, h2⟩
    | ret => obtain ⟨v, h1, h2⟩ := hq; exact ⟨ho.defers, v, h1 a w' ho rfl, v, rfl, hs, h2⟩
    | exit id => exact hq.elim
    | goto l => exact hq.elim
    | panic c => exact hq.elim
    | outgrown => exact hq.elim
  · obtain ⟨_, h2⟩ := argFr_get 0 l t v ht
    have hlt := (List.getElem?_eq_some_iff.1 h2).1
    simp only [Nat.sub_zero] at h2 hlt
    rw [Array.getElem?_append_left (by simpa using hlt)]
    simpa using h2

theorem callsH_of_W {P : Program} {f : FuncId} {fn : Func} {c : Code} {l cap : List Value} {h : Heap} {R : Value → Heap → Prop} (N : Nat)
    (hf : P.funcs[f]? = some fn) (hb : fn.body = some c) (hn : fn.ntmps = N) (hl : Nat.ble (l ++ cap).length N = true) (H : W P N c (Rt P N fn R) (argFr 0 (l ++ cap)) h) : CallsH P f (l.toArray ++ cap.toArray) h R := by
  have := callsH_of_W0 N hf hb hn hl H
  simpa using this

theorem Fr.sub_trans {ψ χ φ : Fr} (h1 : Fr.sub ψ χ) (h2 : Fr.sub χ φ) : Fr.sub ψ φ := by
  induction ψ with
  | nil => trivial
  | cons p r ih => exact ⟨Fr.get_of_sub h2 h1.1, ih h1.2⟩

section
variable {P : Program} {N : Nat} {φ : Fr} {h : Heap} {fn : Func} {R : Value → Heap → Prop}

theorem Ok.getD {a : Act} (ho : Ok N φ a) {t : Nat} {v : Value} (ht : φ.get t = some v) : a.tmps.getD t undef = v := by
  have := ho.slot t v ht
  rw [Array.getD_eq_getD_getElem?, this]; rfl

theorem Rt.one {t : Tmp} {v : Value} (hr : fn.results = #[.tmp t]) (ht : φ.get t = some v) (H : R v h) : Rt P N fn R .ret φ h :=
  ⟨v, fun a w ho _ => by rw [results_tmp hr, ho.getD ht], H⟩
theorem Rt.one' {t : Tmp} {v : Value} (hr : fn.results = #[.tmp t]) (ht : φ.get t = some v) (H : R v h) : Rt P N fn R .normal φ h :=
  ⟨v, fun a w ho _ => by rw [results_tmp hr, ho.getD ht], H⟩
theorem Rt.two {t u : Tmp} {v x : Value} (hr : fn.results = #[.tmp t, .tmp u]) (ht : φ.get t = some v) (hu : φ.get u = some x) (H : R (.tuple #[v, x]) h) : Rt P N fn R .ret φ h :=
  ⟨_, fun a w ho _ => by rw [results_tmp2 hr, ho.getD ht, ho.getD hu], H⟩
theorem Rt.none (hr : fn.results = #[]) (H : R (.tuple #[]) h) : Rt P N fn R .ret φ h :=
  ⟨_, fun a w _ _ => by rw [results_none hr], H⟩
theorem Rt.none' (hr : fn.results = #[]) (H : R (.tuple #[]) h) : Rt P N fn R .normal φ h :=
  ⟨_, fun a w _ _ => by rw [results_none hr], H⟩

/-- arguments as told -/
def Fr.evs (φ : Fr) : List Operand → List Value → Prop
  | [], [] => True
  | x :: xs, v :: vs => φ.ev x = some v ∧ Fr.evs φ xs vs
  | _, _ => False

theorem Fr.evs_map {a : Act} (hev : ∀ x v, φ.ev x = some v → a.eval x = v) : ∀ {xs : List Operand} {vs : List Value}, φ.evs xs vs → xs.map a.eval = vs
  | [], [], _ => rfl
  | x :: xs, v :: vs, h => by rw [List.map_cons, hev x v h.1, Fr.evs_map hev h.2]
  | [], _ :: _, h => h.elim
  | _ :: _, [], h => h.elim

/-- a call of a function of the text -/
theorem opv_call {o : Oper} {c : Operand} {xs : List Operand} {ts : Array TypeId} {vs : List Value} {f : FuncId} {cap : List Value} {fn : Func} {b : Code} {R : Value → Heap → Prop}
    (H : CallsH P f (vs.toArray ++ cap.toArray) h R) (ho : o.op = .call { callee := .value c, args := xs.toArray, argTypes := ts }) (hc : φ.ev c = some (.func (.func f) #[] cap.toArray)) (hx : φ.evs xs vs)
    (hf : P.funcs[f]? = some fn) (hn : (fn.name == "runtime.NumGoroutine") = false) (hb : fn.body = some b) : OpV P φ o h R := by
  intro a w hev hw
  refine .inr (.inr ⟨f, vs.toArray ++ cap.toArray, w, ?_, Same.refl w, H w hw⟩)
  have hm : xs.map a.eval = vs := Fr.evs_map hev hx
  have hm' : xs.toArray.map a.eval = vs.toArray := by simp [hm]
  have hn' : ¬ fn.name = "runtime.NumGoroutine" := by simpa using hn
  simp [execOp, ho, resolve, hev c _ hc, hm', Deferred.ofValue, invoke, callFunc, hf, hn', hb]

theorem RL.opD {ops : Array Oper} {Q : Exit → Fr → Heap → Prop} {d : Nat} {op : Op} {ty : TypeId} {ps : String} {af : Array Edge} {l : List Oper} {u : Value} (hd : d < N)
    (H : OpV P φ { dst := some d, op := op, type := ty, pos := ps, after := af, guard := none } h (Det u h)) (hn : RL P N ops Q l ((d, u) :: φ) h) :
    RL P N ops Q ({ dst := some d, op := op, type := ty, pos := ps, after := af, guard := none } :: l) φ h :=
  RL.op _ hd H fun _ _ hv => hv.1 ▸ hv.2 ▸ hn

theorem RL.opF {ops : Array Oper} {Q : Exit → Fr → Heap → Prop} {d : Nat} {op : Op} {ty : TypeId} {ps : String} {af : Array Edge} {l : List Oper} {k : FloatKind} {x : Option Nat} (hd : d < N)
    (H : OpV P φ { dst := some d, op := op, type := ty, pos := ps, after := af, guard := none } h (Flt k x h)) (hn : ∀ v, IsF k v x → RL P N ops Q l ((d, v) :: φ) h) :
    RL P N ops Q ({ dst := some d, op := op, type := ty, pos := ps, after := af, guard := none } :: l) φ h :=
  RL.op _ hd H fun v _ hv => hv.2 ▸ hn v hv.1

/-- an operation whose guard says yes -/
theorem RL.yes {ops : Array Oper} {Q : Exit → Fr → Heap → Prop} {d j t : Nat} {b want : Bool} {op : Op} {ty : TypeId} {ps : String} {af : Array Edge} {l : List Oper} (K : Value → Heap → Prop)
    (hj : (ops[j]?).bind (·.dst) = some t) (hb : φ.get t = some (.bool b)) (hw : b = want) (hd : d < N) (H : OpV P φ { dst := some d, op := op, type := ty, pos := ps, after := af, guard := some (j, want) } h K)
    (hn : ∀ v h', K v h' → RL P N ops Q l ((d, v) :: φ) h') :
    RL P N ops Q ({ dst := some d, op := op, type := ty, pos := ps, after := af, guard := some (j, want) } :: l) φ h := by
  intro w0 a w hs hwh ho
  have hy : yielded ops a.tmps j = some b := by
    unfold yielded
    rw [hj]
    simp [ho.slot t _ hb]
  refine wpList_step fun K' hK' => ?_
  rw [if_pos (by simp [Region.wanted, hy, hw])]
  exact H.wp ho hwh hs fun v w' hs' hk => hK' _ _ (hn v _ hk w0 _ w' hs' rfl (ho.put hd v))

theorem RL.no {ops : Array Oper} {Q : Exit → Fr → Heap → Prop} {d j t : Nat} {b want : Bool} {op : Op} {ty : TypeId} {ps : String} {af : Array Edge} {l : List Oper}
    (hj : (ops[j]?).bind (·.dst) = some t) (hb : φ.get t = some (.bool b)) (hw : b = !want) (hd : d < N) (hn : RL P N ops Q l ((d, undef) :: φ) h) :
    RL P N ops Q ({ dst := some d, op := op, type := ty, pos := ps, after := af, guard := some (j, want) } :: l) φ h := by
  intro w0 a w hs hwh ho
  have hy : yielded ops a.tmps j = some b := by
    unfold yielded
    rw [hj]
    simp [ho.slot t _ hb]
  refine wpList_step fun K' hK' => ?_
  have hne : ¬ b = want := by rw [hw]; cases want <;> simp
  rw [if_neg (by simp [Region.wanted, hy, hne])]
  exact hK' _ _ (hn w0 _ w hs hwh (ho.put hd undef))

theorem RL.noU {ops : Array Oper} {Q : Exit → Fr → Heap → Prop} {d j t : Nat} {want : Bool} {op : Op} {ty : TypeId} {ps : String} {af : Array Edge} {l : List Oper}
    (hj : (ops[j]?).bind (·.dst) = some t) (hb : φ.get t = some undef) (hd : d < N) (hn : RL P N ops Q l ((d, undef) :: φ) h) :
    RL P N ops Q ({ dst := some d, op := op, type := ty, pos := ps, after := af, guard := some (j, want) } :: l) φ h := by
  intro w0 a w hs hwh ho
  have hy : yielded ops a.tmps j = none := by
    unfold yielded
    rw [hj]
    simp [ho.slot t _ hb, undef]
  refine wpList_step fun K' hK' => ?_
  rw [if_neg (by simp [Region.wanted, hy])]
  exact hK' _ _ (hn w0 _ w hs hwh (ho.put hd undef))

/-- a cut: what is known behind a piece of code -/
def only (Q : Exit → Fr → Heap → Prop) (R : Fr → Heap → Prop) (e : Exit) (φ : Fr) (h : Heap) : Prop :=
  match e with
  | .normal => R φ h
  | e => Q e φ h

theorem W.cut {c : Code} {Q : Exit → Fr → Heap → Prop} (R : Fr → Heap → Prop) (H1 : W P N c (only Q R) φ h) (H2 : ∀ φ' h', R φ' h' → Q .normal φ' h') : W P N c Q φ h :=
  H1.mono fun e φ' h' hq => by cases e <;> first | exact H2 φ' h' hq | exact hq

section
variable {Q : Exit → Fr → Heap → Prop} {Rr : Fr → Heap → Prop} {y : Code} {id i : Nat}
theorem thnN (H : W P N y Q φ h) : thn P N y Q .normal φ h := H
theorem thnX (H : Q (.exit i) φ h) : thn P N y Q (.exit i) φ h := H
theorem thnR (H : Q .ret φ h) : thn P N y Q .ret φ h := H
theorem blkN (H : Q .normal φ h) : blk id Q .normal φ h := H
theorem blkI (H : Q .normal φ h) : blk id Q (.exit id) φ h := by
  show (bif Nat.beq id id then Q .normal φ h else Q (.exit id) φ h)
  have : Nat.beq id id = true := by simp
  rw [this]; exact H
theorem blkO (e : Nat.beq i id = false) (H : Q (.exit i) φ h) : blk id Q (.exit i) φ h := by
  show (bif Nat.beq i id then Q .normal φ h else Q (.exit i) φ h)
  rw [e]; exact H
theorem blkR (H : Q .ret φ h) : blk id Q .ret φ h := H
theorem onlyN (H : Rr φ h) : only Q Rr .normal φ h := H
theorem onlyX (H : Q (.exit i) φ h) : only Q Rr (.exit i) φ h := H
theorem onlyR (H : Q .ret φ h) : only Q Rr .ret φ h := H

/-- the post of a round -/
def rnd {S E : Type} (inv : S → Fr → Heap → Prop) (o : S ⊕ E) (Q : Exit → Fr → Heap → Prop) (e : Exit) (φ : Fr) (h : Heap) : Prop :=
  match e with
  | .normal => ∃ s', o = .inl s' ∧ inv s' φ h
  | e => Q e φ h
theorem rndN {S E : Type} {inv : S → Fr → Heap → Prop} {o : S ⊕ E} {s' : S} (e : o = .inl s') (H : inv s' φ h) : rnd inv o Q .normal φ h := ⟨s', e, H⟩
theorem rndX {S E : Type} {inv : S → Fr → Heap → Prop} {o : S ⊕ E} (H : Q (.exit i) φ h) : rnd inv o Q (.exit i) φ h := H
theorem rndR {S E : Type} {inv : S → Fr → Heap → Prop} {o : S ⊕ E} (H : Q .ret φ h) : rnd inv o Q .ret φ h := H

theorem WR_of {S E : Type} {step : S → Option (S ⊕ E)} {c : Code} {yv : E} (inv : S → Fr → Heap → Prop)
    (round : ∀ s φ h o, inv s φ h → step s = some o → (∀ e, o = .inr e → e = yv) → W P N c (rnd inv o Q) φ h) :
    ∀ n s φ h, runN step n s = some yv → inv s φ h → WR P N c Q n φ h
  | 0, _, _, _, hn, _ => by simp [runN] at hn
  | n + 1, s, φ, h, hn, hi => by
    rw [runN] at hn
    obtain ⟨o, ho, hr⟩ := Option.bind_eq_some_iff.1 hn
    refine WR.succ (W.mono (round s φ h o hi ho fun e he => ?_) ?_)
    · subst he; exact Option.some.inj hr
    · intro e φ' h' hq
      cases e with
      | normal =>
        obtain ⟨s', rfl, hi'⟩ := hq
        exact WR_of inv round n s' φ' h' hr hi'
      | exit _ => exact hq
      | goto _ => exact hq
      | ret => exact hq
      | panic _ => exact hq
      | outgrown => exact hq

theorem W.loopS {S E : Type} {step : S → Option (S ⊕ E)} {c : Code} {yv : E} {s : S} (inv : S → Fr → Heap → Prop) (hy : loopF step s = some yv) (h0 : inv s φ h)
    (round : ∀ s φ h o, inv s φ h → step s = some o → (∀ e, o = .inr e → e = yv) → W P N c (rnd inv o Q) φ h) : W P N (.loop c) Q φ h := by
  obtain ⟨n, hn⟩ := loopF_run hy
  exact W.loop n (WR_of inv round n s φ h hn h0)
end
end
end Go.H

/- Rows of cells, as lists. -/
namespace Go.H
open Go

def hw (h : Heap) : World := { heap := h, tape := fun _ _ => 0, drawn := 0, os := default, output := #[] }

theorem cell_hw {w : World} {h : Heap} (hw' : w.heap = h) (a : Addr) : w.cell? a = (hw h).cell? a := by subst hw'; rfl

/-- a kind of elements: what cells tell what -/
structure Kd (α : Type) where
  size : Nat
  rel : α → List Value → Prop
  len : ∀ x us, rel x us → us.length = size
  one : ∀ x us, rel x us → ∀ u ∈ us, u.oneCell' = true
  pos : 0 < size

def RelL {α : Type} (K : Kd α) : List α → List Value → Prop
  | [], xs => xs = []
  | x :: l, xs => ∃ us r, xs = us ++ r ∧ K.rel x us ∧ RelL K l r

section
variable {α : Type} {K : Kd α}

theorem RelL.length : ∀ {l : List α} {xs : List Value}, RelL K l xs → xs.length = l.length * K.size
  | [], _, h => by simp [RelL] at h; simp [h]
  | x :: l, _, ⟨us, r, e, h1, h2⟩ => by rw [e, List.length_append, K.len x us h1, h2.length, List.length_cons, Nat.add_mul, Nat.one_mul, Nat.add_comm]

theorem RelL.append : ∀ {l m : List α} {xs ys : List Value}, RelL K l xs → RelL K m ys → RelL K (l ++ m) (xs ++ ys)
  | [], _, _, _, h, k => by simp [RelL] at h; subst h; exact k
  | _ :: _, _, _, _, ⟨us, r, e, h1, h2⟩, k => ⟨us, r ++ _, by rw [e, List.append_assoc], h1, h2.append k⟩

theorem RelL.single {x : α} {us : List Value} (h : K.rel x us) : RelL K [x] us := ⟨us, [], by simp, h, rfl⟩

theorem RelL.get : ∀ {l : List α} {xs : List Value} (_ : RelL K l xs) {i : Nat} {x : α}, l[i]? = some x → ∃ us, K.rel x us ∧ ∀ j u, us[j]? = some u → xs[i * K.size + j]? = some u
  | [], _, _, _, _, hi => by simp at hi
  | y :: l, _, ⟨us, r, e, h1, h2⟩, 0, x, hi => by
    simp only [List.getElem?_cons_zero, Option.some.injEq] at hi
    subst hi
    refine ⟨us, h1, fun j u hu => ?_⟩
    rw [e, Nat.zero_mul, Nat.zero_add, List.getElem?_append_left (List.getElem?_eq_some_iff.1 hu).1]; exact hu
  | y :: l, _, ⟨us, r, e, h1, h2⟩, i + 1, x, hi => by
    obtain ⟨vs, h3, h4⟩ := h2.get (i := i) (x := x) (by simpa using hi)
    refine ⟨vs, h3, fun j u hu => ?_⟩
    have := h4 j u hu
    rw [e, List.getElem?_append_right (by rw [K.len y us h1, Nat.add_mul, Nat.one_mul]; omega), K.len y us h1]
    rw [show (i + 1) * K.size + j - K.size = i * K.size + j from by rw [Nat.add_mul, Nat.one_mul]; omega]
    exact this

theorem RelL.one : ∀ {l : List α} {xs : List Value}, RelL K l xs → ∀ u ∈ xs, u.oneCell' = true
  | [], _, h, u, hu => by simp [RelL] at h; subst h; simp at hu
  | x :: l, _, ⟨us, r, e, h1, h2⟩, u, hu => by
    rw [e] at hu
    rcases List.mem_append.1 hu with h | h
    · exact K.one x us h1 u h
    · exact h2.one u h

theorem RelL.take : ∀ {l : List α} {xs : List Value} (_ : RelL K l xs) (n : Nat), RelL K (l.take n) (xs.take (n * K.size))
  | [], _, h, n => by simp [RelL] at h; subst h; simp [RelL]
  | x :: l, _, _, 0 => by simp [RelL]
  | x :: l, _, ⟨us, r, e, h1, h2⟩, n + 1 => by
    refine ⟨us, r.take (n * K.size), ?_, h1, h2.take n⟩
    rw [e, List.take_append, K.len x us h1, Nat.add_mul, Nat.one_mul, List.take_of_length_le (by rw [K.len x us h1]; omega), Nat.add_sub_cancel]

theorem RelL.drop : ∀ {l : List α} {xs : List Value} (_ : RelL K l xs) (n : Nat), RelL K (l.drop n) (xs.drop (n * K.size))
  | [], _, h, n => by simp [RelL] at h; subst h; simp [RelL]
  | x :: l, _, h, 0 => by simpa using h
  | x :: l, _, ⟨us, r, e, h1, h2⟩, n + 1 => by
    have e1 : us.drop (n * K.size + K.size) = [] := List.drop_of_length_le (by rw [K.len x us h1]; omega)
    rw [e, List.drop_append, K.len x us h1, Nat.add_mul, Nat.one_mul, e1, Nat.add_sub_cancel]
    simpa using h2.drop n

/-- one element written anew -/
theorem RelL.set : ∀ {l : List α} {xs : List Value} (_ : RelL K l xs) {i : Nat} (_ : i < l.length) {x : α} {us : List Value} (_ : K.rel x us),
    RelL K (l.set i x) (xs.take (i * K.size) ++ us ++ xs.drop ((i + 1) * K.size))
  | [], _, _, _, hi, _, _, _ => by simp at hi
  | y :: l, _, ⟨vs, r, e, h1, h2⟩, 0, _, x, us, hu => by
    refine ⟨us, r, ?_, hu, h2⟩
    rw [e, Nat.zero_mul, Nat.zero_add, Nat.one_mul, List.take_zero, List.nil_append, List.drop_append, K.len y vs h1, List.drop_of_length_le (by rw [K.len y vs h1]; omega)]
    simp
  | y :: l, _, ⟨vs, r, e, h1, h2⟩, i + 1, hi, x, us, hu => by
    refine ⟨vs, r.take (i * K.size) ++ us ++ r.drop ((i + 1) * K.size), ?_, h1, h2.set (by simpa using hi) hu⟩
    have hv := K.len y vs h1
    rw [e, List.take_append, hv, List.take_of_length_le (by rw [hv, Nat.add_mul, Nat.one_mul]; omega), List.drop_append, hv, List.drop_of_length_le (by rw [hv, Nat.add_mul, Nat.one_mul]; omega)]
    rw [show (i + 1) * K.size - K.size = i * K.size from by rw [Nat.add_mul, Nat.one_mul]; omega, show (i + 1 + 1) * K.size - K.size = (i + 1) * K.size from by rw [Nat.add_mul (i + 1), Nat.one_mul]; omega]
    simp [List.append_assoc]

theorem RelL.replicate {x : α} {us : List Value} (h : K.rel x us) : ∀ n, RelL K (List.replicate n x) (List.replicate n us).flatten
  | 0 => rfl
  | n + 1 => ⟨us, (List.replicate n us).flatten, by simp [List.replicate_succ], h, RelL.replicate h n⟩
end

/-- the heap but for the blocks of S -/
structure Chg (S : Nat → Prop) (h h' : Heap) : Prop where
  size : h.size ≤ h'.size
  blk : ∀ b, b < h.size → ¬ S b → h'[b]? = h[b]?

theorem Ext.chg {h h' : Heap} (e : Ext h h') (S : Nat → Prop) : Chg S h h' := ⟨e.size, fun b hb _ => e.blk b hb⟩
theorem Chg.refl (S : Nat → Prop) (h : Heap) : Chg S h h := ⟨Nat.le_refl _, fun _ _ _ => rfl⟩
theorem Chg.trans {S : Nat → Prop} {a b c : Heap} (x : Chg S a b) (y : Chg S b c) : Chg S a c :=
  ⟨Nat.le_trans x.size y.size, fun k hk hs => (y.blk k (Nat.lt_of_lt_of_le hk x.size) hs).trans (x.blk k hk hs)⟩
theorem Chg.mono {S T : Nat → Prop} {a b : Heap} (x : Chg S a b) (hst : ∀ k, k < a.size → S k → T k) : Chg T a b :=
  ⟨x.size, fun k hk hs => x.blk k hk fun h => hs (hst k hk h)⟩
theorem Chg.ext {S : Nat → Prop} {a b : Heap} (x : Chg S a b) (hs : ∀ k, k < a.size → ¬ S k) : Ext a b := ⟨x.size, fun k hk => x.blk k hk (hs k hk)⟩

theorem cell_chg {S : Nat → Prop} {h h' : Heap} (c : Chg S h h') {a : Addr} {v : Value} (hv : (hw h).cell? a = some v) (hs : ¬ S a.block) : (hw h').cell? a = some v := by
  have hlt : a.block < h.size := World.block_lt_of_cell? (hw h) a hv
  have : h'[a.block]? = h[a.block]? := c.blk _ hlt hs
  exact (World.cell?_of_block (w := hw h) (w' := hw h') this).trans hv

/-- the slice 'v' reads 'l'; what it reads lies below block 'e' -/
def SL {α : Type} (K : Kd α) (e : Nat) (h : Heap) (v : Value) (l : List α) : Prop :=
  ∃ a c xs, v = .slice a l.length c ∧ (l.length ≤ c ∧ RelL K l xs) ∧ (l = [] ∨ ∃ p, a = some p ∧ p.spot = none ∧ p.block < e ∧ ∀ j u, xs[j]? = some u → (hw h).cell? (p.add j) = some u)

def blkOf : Value → Option Nat
  | .slice (some a) _ _ => some a.block
  | .pointer (some a) => some a.block
  | _ => none

theorem addBlock (p : Addr) (j : Nat) : (p.add j).block = p.block := by unfold Addr.add; split <;> rfl

section
variable {α : Type} {K : Kd α} {h h' : Heap} {v : Value} {l : List α}

theorem SL.chg {e : Nat} {S : Nat → Prop} (H : SL K e h v l) (c : Chg S h h') (hs : ∀ b, b < e → ¬ S b) : SL K e h' v l := by
  obtain ⟨a, n, xs, hv, hr, hc⟩ := H
  refine ⟨a, n, xs, hv, hr, hc.imp id ?_⟩
  rintro ⟨p, hp, hsp, hb, hcell⟩
  exact ⟨p, hp, hsp, hb, fun j u hu => cell_chg c (hcell j u hu) (by rw [addBlock]; exact hs _ hb)⟩

theorem SL.ext {e : Nat} (H : SL K e h v l) (c : Ext h h') : SL K e h' v l := H.chg (c.chg fun _ => False) (fun _ _ h => h)

theorem SL.up {e e' : Nat} (H : SL K e h v l) (he : e ≤ e') : SL K e' h v l := by
  obtain ⟨a, n, xs, hv, hr, hc⟩ := H
  exact ⟨a, n, xs, hv, hr, hc.imp id fun ⟨p, hp, hsp, hb, hcell⟩ => ⟨p, hp, hsp, Nat.lt_of_lt_of_le hb he, hcell⟩⟩

/-- a slice of the call's own: nil, or a row from its begin on, in a block from 'lo' on -/
def Own {α : Type} (K : Kd α) (E : TypeId) (lo : Nat) (h : Heap) (v : Value) (l : List α) : Prop :=
  ∃ xs, (hw h).ownsRow lo E K.size v l.length xs ∧ RelL K l xs

theorem Own.down {E : TypeId} {lo lo' : Nat} (H : Own K E lo h v l) (hl : lo' ≤ lo) : Own K E lo' h v l := by
  obtain ⟨xs, ⟨h1, h2⟩, hr⟩ := H
  exact ⟨xs, ⟨h1, h2.imp id fun ⟨g, cap, cur, hv, hb, rest⟩ => ⟨g, cap, cur, hv, Nat.le_trans hl hb, rest⟩⟩, hr⟩

theorem Own.bounds {E : TypeId} {lo : Nat} (H : Own K E lo h v l) : ∀ b, v.ownBlock = some b → lo ≤ b ∧ b < h.size := by
  obtain ⟨xs, h1, _⟩ := H
  exact h1.lt

theorem Own.chg {E : TypeId} {lo : Nat} {S : Nat → Prop} (H : Own K E lo h v l) (c : Chg S h h') (hs : ∀ b, v.ownBlock = some b → ¬ S b) : Own K E lo h' v l := by
  obtain ⟨xs, ⟨h1, h2⟩, hr⟩ := H
  refine ⟨xs, ⟨h1, h2.imp id ?_⟩, hr⟩
  rintro ⟨g, cap, cur, rfl, hb, hg, rest⟩
  refine ⟨g, cap, cur, rfl, hb, ?_, rest⟩
  have hlt : g < h.size := (Array.getElem?_eq_some_iff.1 hg).1
  show h'[g]? = _
  rw [c.blk g hlt (hs g rfl)]
  exact hg

theorem Own.ext {E : TypeId} {lo : Nat} (H : Own K E lo h v l) (c : Ext h h') : Own K E lo h' v l := H.chg (c.chg fun _ => False) (fun _ _ h => h)

theorem Own.read {E : TypeId} {lo e : Nat} (H : Own K E lo h v l) (he : h.size ≤ e) : SL K e h v l := by
  obtain ⟨xs, h1, hr⟩ := H
  have h1' := h1
  obtain ⟨hlen, h2⟩ := h1
  rcases h2 with ⟨rfl, hn⟩ | ⟨g, cap, cur, rfl, hb, hg, rest⟩
  · have : l = [] := List.eq_nil_of_length_eq_zero hn
    subst this
    exact ⟨none, 0, xs, rfl, ⟨Nat.le_refl _, hr⟩, .inl rfl⟩
  · refine ⟨some ⟨g, 0, none⟩, cap, xs, rfl, ⟨rest.1, hr⟩, .inr ⟨⟨g, 0, none⟩, rfl, rfl, Nat.lt_of_lt_of_le (Array.getElem?_eq_some_iff.1 hg).1 he, ?_⟩⟩
    exact h1'.cells (g := g) rfl
end
end Go.H

/- Operations on rows and boxes. -/
namespace Go.H
open Go

def kF (k : FloatKind) : Kd (Option Nat) where
  size := 1
  rel x us := ∃ v, us = [v] ∧ IsF k v x
  len := by rintro _ _ ⟨v, rfl, _⟩; rfl
  one := by rintro _ _ ⟨v, rfl, b, rfl, _⟩ u hu; simp at hu; subst hu; rfl
  pos := by decide

def kI (k : IntKind) : Kd Int where
  size := 1
  rel n us := us = [.int k n]
  len := by rintro _ _ rfl; rfl
  one := by rintro _ _ rfl u hu; simp at hu; subst hu; rfl
  pos := by decide

def kB : Kd Bool where
  size := 1
  rel b us := us = [.bool b]
  len := by rintro _ _ rfl; rfl
  one := by rintro _ _ rfl u hu; simp at hu; subst hu; rfl
  pos := by decide

def IsC (k : FloatKind) (v : Value) (x : Option Nat × Option Nat) : Prop := ∃ a b, v = .complex k a b ∧ a < 2 ^ k.format.width ∧ b < 2 ^ k.format.width ∧ cls k a = x.1 ∧ cls k b = x.2

def kC (k : FloatKind) : Kd (Option Nat × Option Nat) where
  size := 1
  rel x us := ∃ v, us = [v] ∧ IsC k v x
  len := by rintro _ _ ⟨v, rfl, _⟩; rfl
  one := by rintro _ _ ⟨v, rfl, a, b, rfl, _⟩ u hu; simp at hu; subst hu; rfl
  pos := by decide

/-- elements that are told by their very values -/
def kV : Kd Value where
  size := 1
  rel x us := us = [x] ∧ x.oneCell' = true
  len := by rintro _ _ ⟨rfl, _⟩; rfl
  one := by rintro _ _ ⟨rfl, h⟩ u hu; simp at hu; subst hu; exact h
  pos := by decide

/-- pairs of integers -/
def kII (k : IntKind) : Kd (Int × Int) where
  size := 2
  rel x us := us = [.int k x.1, .int k x.2]
  len := by rintro _ _ rfl; rfl
  one := by rintro _ _ rfl u hu; simp at hu; rcases hu with rfl | rfl <;> rfl
  pos := by decide

def idx {α : Type} (l : List α) (n : Int) : Option α := if 0 ≤ n then l[n.toNat]? else none

theorem idx_some {α : Type} {l : List α} {n : Int} {x : α} (h : idx l n = some x) : 0 ≤ n ∧ n.toNat < l.length ∧ l[n.toNat]? = some x := by
  unfold idx at h
  split at h
  · exact ⟨by assumption, (List.getElem?_eq_some_iff.1 h).1, h⟩
  · cases h

def PtI (sz : Nat) (u v : Value) (i : Nat) : Prop := ∃ p n c, v = .slice (some p) n c ∧ u = .pointer (some (p.add (i * sz)))

def oneCellT (P : Program) (t : TypeId) : Bool := match P.underlying t with
  | some (.struct _) => false
  | some (.array _ _) => false
  | some _ => true
  | none => false

theorem run_loadVar_one {P : Program} {t : TypeId} (ht : oneCellT P t = true) {w : World} {a : Addr} {v : Value} (hv : w.cell? a = some v) : (loadVar t a).run P w = .ok v w := by
  unfold oneCellT at ht
  cases hu : P.underlying t with
  | none => rw [hu] at ht; cases ht
  | some d =>
    rw [hu] at ht
    cases d <;> first | (cases ht; done) | simp [loadVar, isAgg, run_underlying hu, hv]

section
variable {P : Program} {φ : Fr} {h : Heap} {o : Oper} {α : Type} {K : Kd α} {e : Nat} {v : Value} {l : List α}

theorem opv_len {t E : TypeId} {x : Operand} (ho : o.op = .call { callee := .builtin .len, args := #[x], argTypes := #[t] }) (ht : P.underlying t = some (.slice E)) (hx : φ.ev x = some v) (H : SL K e h v l) : OpV P φ o h (Det (.int .i64 l.length) h) := by
  intro a w hev hw
  obtain ⟨p, c, xs, rfl, _, _⟩ := H
  refine .inl ⟨_, w, ?_, Same.refl w, rfl, hw.symm⟩
  simp [execOp, ho, resolve, hev x _ hx, invoke, builtin, Builtin.len_, run_underlying ht, goInt]

theorem opv_lenS {t : TypeId} {x : Operand} {s : ByteArray} (ho : o.op = .call { callee := .builtin .len, args := #[x], argTypes := #[t] }) (ht : P.underlying t = some .string) (hx : φ.ev x = some (.string s)) : OpV P φ o h (Det (.int .i64 s.size) h) := by
  intro a w hev hw
  refine .inl ⟨_, w, ?_, Same.refl w, rfl, hw.symm⟩
  simp [execOp, ho, resolve, hev x _ hx, invoke, builtin, Builtin.len_, run_underlying ht, goInt]

theorem opv_index {t E : TypeId} {x i : Operand} {k : IntKind} {n : Int} {y : α} (ho : o.op = .indexAddr t x i) (ht : P.underlying t = some (.slice E)) (hs : (P.info? E).map (·.size) = some K.size) (hx : φ.ev x = some v) (hi : φ.ev i = some (.int k n)) (H : SL K e h v l) (hn : idx l n = some y) :
    OpV P φ o h (fun u h' => PtI K.size u v n.toNat ∧ h = h') := by
  intro a w hev hw
  obtain ⟨p, c, xs, rfl, hr, hc⟩ := H
  obtain ⟨h0, h1, _⟩ := idx_some hn
  rcases hc with rfl | ⟨q, rfl, hq, hb, hcell⟩
  · simp at h1
  obtain ⟨info, hinfo, hsz⟩ := Option.map_eq_some_iff.1 hs
  refine .inl ⟨.pointer (some (q.add (n.toNat * K.size))), w, ?_, Same.refl w, ⟨q, l.length, c, rfl, rfl⟩, hw.symm⟩
  have h1' : n < (l.length : Int) := by omega
  simp [execOp, ho, hev x _ hx, hev i _ hi, Instr.indexAt, asIntOf, run_underlying ht, h0, h1', sizeOf, typeInfo, hinfo, hsz]

theorem opv_load {t : TypeId} {x : Operand} {a : Addr} {u : Value} (ho : o.op = .load t x) (ht : oneCellT P t = true) (hx : φ.ev x = some (.pointer (some a))) (hc : (hw h).cell? a = some u) : OpV P φ o h (Det u h) := by
  intro a' w hev hw'
  refine .inl ⟨u, w, ?_, Same.refl w, rfl, hw'.symm⟩
  have := run_loadVar_one (P := P) ht (w := w) (a := a) (v := u) (by rw [cell_hw hw']; exact hc)
  simp [execOp, ho, hev x _ hx, Instr.loadAt, Instr.sureAddr, this]

theorem SL.cell1 (H : SL K e h v l) (h1 : K.size = 1) {u : Value} {i : Nat} (hp : PtI K.size u v i) {y : α} (hy : l[i]? = some y) : ∃ a r, u = .pointer (some a) ∧ (hw h).cell? a = some r ∧ K.rel y [r] := by
  obtain ⟨p, c, xs, rfl, hr, hc⟩ := H
  obtain ⟨q, n, c', hv, rfl⟩ := hp
  simp only [Value.slice.injEq] at hv
  obtain ⟨rfl, rfl, rfl⟩ := hv
  rcases hc with rfl | ⟨p, hp, hsp, hb, hcell⟩
  · simp at hy
  cases hp
  obtain ⟨us, hrel, hus⟩ := hr.2.get hy
  have hl := K.len _ _ hrel
  rw [h1] at hl
  obtain ⟨r, rfl⟩ := List.length_eq_one_iff.1 hl
  exact ⟨_, r, rfl, hcell _ _ (by simpa using hus 0 r rfl), hrel⟩

theorem opv_loadE {t : TypeId} {x : Operand} {u : Value} {i : Nat} {y : α} (ho : o.op = .load t x) (ht : oneCellT P t = true) (h1 : K.size = 1) (hx : φ.ev x = some u) (hp : PtI K.size u v i) (H : SL K e h v l) (hy : l[i]? = some y) : OpV P φ o h (fun r h' => K.rel y [r] ∧ h = h') := by
  obtain ⟨a, r, rfl, hc, hr⟩ := H.cell1 h1 hp hy
  exact (opv_load ho ht hx hc).mono (by rintro _ _ ⟨rfl, rfl⟩; exact ⟨hr, rfl⟩)

theorem opv_loadF {k : FloatKind} {l : List (Option Nat)} {t : TypeId} {x : Operand} {u : Value} {n : Int} {y : Option Nat} (ho : o.op = .load t x) (ht : oneCellT P t = true) (hx : φ.ev x = some u) (hp : PtI 1 u v n.toNat) (H : SL (kF k) e h v l) (hy : idx l n = some y) : OpV P φ o h (Flt k y h) :=
  (opv_loadE (K := kF k) ho ht rfl hx hp H (idx_some hy).2.2).mono (by rintro r _ ⟨⟨w, hw, hf⟩, rfl⟩; simp at hw; subst hw; exact ⟨hf, rfl⟩)
theorem opv_loadI {k : IntKind} {l : List Int} {t : TypeId} {x : Operand} {u : Value} {n : Int} {y : Int} (ho : o.op = .load t x) (ht : oneCellT P t = true) (hx : φ.ev x = some u) (hp : PtI 1 u v n.toNat) (H : SL (kI k) e h v l) (hy : idx l n = some y) : OpV P φ o h (Det (.int k y) h) :=
  (opv_loadE (K := kI k) ho ht rfl hx hp H (idx_some hy).2.2).mono (by rintro r _ ⟨hw, rfl⟩; change [r] = [.int k y] at hw; simp at hw; subst hw; exact ⟨rfl, rfl⟩)
theorem opv_loadBl {l : List Bool} {t : TypeId} {x : Operand} {u : Value} {n : Int} {y : Bool} (ho : o.op = .load t x) (ht : oneCellT P t = true) (hx : φ.ev x = some u) (hp : PtI 1 u v n.toNat) (H : SL kB e h v l) (hy : idx l n = some y) : OpV P φ o h (Det (.bool y) h) :=
  (opv_loadE (K := kB) ho ht rfl hx hp H (idx_some hy).2.2).mono (by rintro r _ ⟨hw, rfl⟩; change [r] = [.bool y] at hw; simp at hw; subst hw; exact ⟨rfl, rfl⟩)

/-! boxes -/

/-- block b holds just these cells, and may be written -/
def Bx (h : Heap) (b : Nat) (cs : List Value) : Prop := ∃ T, h[b]? = some (.cells cs.toArray T (0, 0))

theorem Bx.lt {b : Nat} {cs : List Value} (H : Bx h b cs) : b < h.size := by obtain ⟨T, hT⟩ := H; exact (Array.getElem?_eq_some_iff.1 hT).1
theorem Bx.chg {b : Nat} {cs : List Value} {h' : Heap} {S : Nat → Prop} (H : Bx h b cs) (c : Chg S h h') (hs : ¬ S b) : Bx h' b cs := by
  have := H.lt
  obtain ⟨T, hT⟩ := H
  exact ⟨T, by rw [c.blk b this hs]; exact hT⟩
theorem Bx.ext {b : Nat} {cs : List Value} {h' : Heap} (H : Bx h b cs) (c : Ext h h') : Bx h' b cs := H.chg (c.chg fun _ => False) (fun x => x)
theorem Bx.cell {b : Nat} {cs : List Value} (H : Bx h b cs) {k : Nat} {u : Value} (hk : cs[k]? = some u) : (hw h).cell? ⟨b, k, none⟩ = some u := by
  obtain ⟨T, hT⟩ := H
  have hT' : (hw h).heap[b]? = some (.cells cs.toArray T (0, 0)) := hT
  simp [World.cell?, hT', hk]

theorem opv_loadB {t : TypeId} {x : Operand} {b k : Nat} {cs : List Value} {u : Value} (ho : o.op = .load t x) (ht : oneCellT P t = true) (hx : φ.ev x = some (.pointer (some ⟨b, k, none⟩))) (H : Bx h b cs) (hk : cs[k]? = some u) : OpV P φ o h (Det u h) :=
  opv_load ho ht hx (H.cell hk)

theorem opv_nilCheck {x : Operand} {a : Addr} (ho : o.op = .nilCheck x) (hx : φ.ev x = some (.pointer (some a))) : OpV P φ o h (Det (.pointer (some a)) h) := by
  intro a' w hev hw'
  exact .inl ⟨_, w, by simp [execOp, ho, hev x _ hx], Same.refl w, rfl, hw'.symm⟩

/-- where a field begins; none of no size -/
def fieldOff (P : Program) (s : TypeId) (f : Nat) : Option Nat := match P.underlying s with
  | some (.struct fs) => match fs[f]? with
    | some fd => match P.info? fd.type with
      | some i => if i.size = 0 then none else some fd.offset
      | none => none
    | none => none
  | _ => none

theorem add_lit (b k n : Nat) : (⟨b, k, none⟩ : Addr).add n = ⟨b, k + n, none⟩ := by unfold Addr.add; split <;> simp_all

theorem opv_fieldAddr {s : TypeId} {x : Operand} {f n : Nat} {b k : Nat} (ho : o.op = .fieldAddr s x f) (hf : fieldOff P s f = some n) (hx : φ.ev x = some (.pointer (some ⟨b, k, none⟩))) : OpV P φ o h (Det (.pointer (some ⟨b, k + n, none⟩)) h) := by
  intro a' w hev hw'
  refine .inl ⟨_, w, ?_, Same.refl w, rfl, hw'.symm⟩
  unfold fieldOff at hf
  split at hf
  · rename_i fs hu
    split at hf
    · rename_i fd hfd
      split at hf
      · rename_i i hi
        split at hf
        · cases hf
        · rename_i hz
          cases hf
          simp [execOp, ho, hev x _ hx, Instr.fieldAt, Instr.sureAddr, run_underlying hu, hfd, fieldPlace, sizeOf, typeInfo, hi, hz, add_lit]
      · cases hf
    · cases hf
  · cases hf

theorem ext_push (h : Heap) (ob : Obj) : Ext h (h.push ob) := ⟨by simp, fun b hb => by rw [Array.getElem?_push, if_neg (by omega)]⟩

/-- a value laid into a box of its own -/
def Boxed (h : Heap) (cs : List Value) (u : Value) (h' : Heap) : Prop := ∃ b, u = .pointer (some ⟨b, 0, none⟩) ∧ b = h.size ∧ Ext h h' ∧ h'.size = h.size + 1 ∧ Bx h' b cs

theorem boxed_push (h : Heap) (cs : List Value) (T : TypeId) : Boxed h cs (.pointer (some ⟨h.size, 0, none⟩)) (h.push (.cells cs.toArray T)) :=
  ⟨h.size, rfl, rfl, ext_push _ _, by simp, T, by simp⟩

theorem opv_boxA {t : TypeId} {x : Operand} {cs : List Value} (ho : o.op = .box t x) (hx : φ.ev x = some (.agg cs.toArray)) : OpV P φ o h (Boxed h cs) := by
  intro a' w hev hw'
  subst hw'
  exact .inl ⟨.pointer (some ⟨w.heap.size, 0, none⟩), w.alloc (.cells cs.toArray t), by simp [execOp, ho, hev x _ hx, Instr.box, newVar, newRow, Value.cells], ⟨rfl, rfl, rfl⟩, boxed_push _ _ _⟩

theorem opv_box1 {t : TypeId} {x : Operand} {u : Value} (ho : o.op = .box t x) (hx : φ.ev x = some u) (hu : u.oneCell' = true) : OpV P φ o h (Boxed h [u]) := by
  intro a' w hev hw'
  subst hw'
  have hc : u.cells = [u].toArray := by cases u <;> first | rfl | cases hu
  exact .inl ⟨.pointer (some ⟨w.heap.size, 0, none⟩), w.alloc (.cells [u].toArray t), by simp [execOp, ho, hev x _ hx, Instr.box, newVar, newRow, hc], ⟨rfl, rfl, rfl⟩, boxed_push w.heap [u] _⟩

theorem opv_alloc {t : TypeId} {z : Value} {cs : List Value} (ho : o.op = .alloc t) (hz : (P.info? t).bind (·.zero) = some z) (hc : z.cells = cs.toArray) : OpV P φ o h (Boxed h cs) := by
  intro a' w hev hw'
  subst hw'
  obtain ⟨i, hi, hiz⟩ := Option.bind_eq_some_iff.1 hz
  exact .inl ⟨.pointer (some ⟨w.heap.size, 0, none⟩), w.alloc (.cells cs.toArray t), by simp [execOp, ho, Instr.alloc, zeroValue, typeInfo, hi, hiz, newVar, newRow, hc], ⟨rfl, rfl, rfl⟩, boxed_push _ _ _⟩

theorem opv_extract {x : Operand} {n : Nat} {vs : List Value} {u : Value} (ho : o.op = .extract x n) (hx : φ.ev x = some (.tuple vs.toArray)) (hu : vs[n]? = some u) : OpV P φ o h (Det u h) := by
  intro a' w hev hw'
  exact .inl ⟨_, w, by simp [execOp, ho, hev x _ hx, Instr.extract, hu], Same.refl w, rfl, hw'.symm⟩
end
end Go.H

/- Stores, appends, makes, cuts, copies. -/
namespace Go.H
open Go

theorem setRow_chg (w : World) (g : Nat) (cs : Array Value) : Chg (fun b => b = g) w.heap (w.setRow g cs).heap :=
  ⟨by simp [World.setRow], fun b _ hb => setRow_other w g b cs hb⟩

theorem setCell_row (w : World) (g o : Nat) (cur : Array Value) (t : TypeId) (v : Value) (hg : w.heap[g]? = some (.cells cur t (0, 0))) :
    (w.setCell ⟨g, o, none⟩ v) = w.setRow g (cur.setIfInBounds o v) := setCell_eq_setRow w g o cur t (0, 0) v hg

/-- told bytes of an element type -/
def elemInfo (P : Program) (E : TypeId) : Option (Value × Nat × Nat) := (P.info? E).bind fun i => i.zero.map fun z => (z, i.size, i.bytes)

theorem elemInfo_some {P : Program} {E : TypeId} {z : Value} {n b : Nat} (h : elemInfo P E = some (z, n, b)) : ∃ i, P.info? E = some i ∧ i.zero = some z ∧ i.size = n ∧ i.bytes = b := by
  unfold elemInfo at h
  obtain ⟨i, hi, h2⟩ := Option.bind_eq_some_iff.1 h
  obtain ⟨z', hz, h3⟩ := Option.map_eq_some_iff.1 h2
  cases h3
  exact ⟨i, hi, hz, rfl, rfl⟩

section
variable {P : Program} {φ : Fr} {h : Heap} {o : Oper} {α : Type} {K : Kd α} {e : Nat} {v : Value} {l : List α}

/-- behind a store into box b -/
def Stored (h : Heap) (b : Nat) (cs : List Value) (u : Value) (h' : Heap) : Prop := u = undef ∧ Chg (fun k => k = b) h h' ∧ h'.size = h.size ∧ Bx h' b cs

theorem opv_storeB {t : TypeId} {x y : Operand} {b k : Nat} {cs : List Value} {u : Value} (ho : o.op = .store t x y) (ht : (P.info? t).map (·.size) = some 1) (hx : φ.ev x = some (.pointer (some ⟨b, k, none⟩))) (hy : φ.ev y = some u) (hu : u.oneCell' = true) (H : Bx h b cs) (hk : k < cs.length) :
    OpV P φ o h (Stored h b (cs.set k u)) := by
  intro a w hev hw'
  subst hw'
  obtain ⟨T, hT⟩ := H
  obtain ⟨i, hi, hsz⟩ := Option.map_eq_some_iff.1 ht
  have hc : u.cells = #[u] := by cases u <;> first | rfl | cases hu
  have hrun := run_storeCells_at P b k T [u] 0 cs.toArray w hT (by simp; omega) (by simpa using hu)
  refine .inr (.inl ⟨w.setRow b (cs.take k ++ [u] ++ cs.drop (k + 1)).toArray, ?_, ⟨rfl, rfl, rfl⟩, ?_⟩)
  · simp [execOp, ho, hev x _ hx, hev y _ hy, Instr.storeAt, Instr.sureAddr, storeVar, hc, sizeOf, typeInfo, hi, hsz] at hrun ⊢
    simp [hrun]
  · refine ⟨rfl, setRow_chg .., by simp [World.setRow], T, ?_⟩
    rw [setRow_heap w b _ _ T _ hT]
    simp [List.set_eq_take_append_cons_drop, hk]

theorem opv_storeA {t : TypeId} {x y : Operand} {b n : Nat} {cs us : List Value} (ho : o.op = .store t x y) (ht : (P.info? t).map (·.size) = some n) (hx : φ.ev x = some (.pointer (some ⟨b, 0, none⟩))) (hy : φ.ev y = some (.agg us.toArray)) (hu : us.all (·.oneCell') = true) (H : Bx h b cs) (hk : cs.length = n) (hk' : us.length = n) :
    OpV P φ o h (Stored h b us) := by
  intro a w hev hw'
  subst hw'
  obtain ⟨T, hT⟩ := H
  obtain ⟨i, hi, hsz⟩ := Option.map_eq_some_iff.1 ht
  have hrun := run_storeCells_at P b 0 T us 0 cs.toArray w hT (by simp; omega) (by simpa using hu)
  refine .inr (.inl ⟨w.setRow b us.toArray, ?_, ⟨rfl, rfl, rfl⟩, rfl, setRow_chg .., by simp [World.setRow], T, setRow_heap w b _ _ T _ hT⟩)
  have e1 : us.length = i.size := by omega
  have e2 : cs.drop us.length = [] := List.drop_of_length_le (by omega)
  simp [execOp, ho, hev x _ hx, hev y _ hy, Instr.storeAt, Instr.sureAddr, storeVar, Value.cells, sizeOf, typeInfo, hi, e2] at hrun ⊢
  simp [hrun, ← e1]

/-- a store into an element of a row of the call's own -/
theorem opv_storeE {t E : TypeId} {lo : Nat} {x y : Operand} {p u : Value} {i : Nat} {z : α} (ho : o.op = .store t x y) (ht : (P.info? t).map (·.size) = some 1) (h1 : K.size = 1) (hx : φ.ev x = some p) (hp : PtI K.size p v i) (hy : φ.ev y = some u) (hz : K.rel z [u]) (hi : i < l.length) (H : Own K E lo h v l) :
    OpV P φ o h (fun r h' => r = undef ∧ Own K E lo h' v (l.set i z) ∧ Chg (fun b => v.ownBlock = some b) h h' ∧ h'.size = h.size) := by
  intro a w hev hw'
  subst hw'
  obtain ⟨xs, ⟨hl, h2⟩, hr⟩ := H
  rcases h2 with ⟨rfl, hn⟩ | ⟨g, cap, cur, rfl, hb, hg, hnc, hcm, hcs, htk⟩
  · obtain ⟨q, n, c, hv, _⟩ := hp
    simp at hv
  obtain ⟨q, n, c, hv, rfl⟩ := hp
  simp only [Value.slice.injEq, Option.some.injEq] at hv
  obtain ⟨rfl, rfl, rfl⟩ := hv
  have hu1 : u.oneCell' = true := K.one z [u] hz u (by simp)
  have hc : u.cells = #[u] := by cases u <;> first | rfl | cases hu1
  obtain ⟨info, hinf, hsz⟩ := Option.map_eq_some_iff.1 ht
  have hg' : w.heap[g]? = some (.cells cur E (0, 0)) := hg
  have hicur : i < cur.size := by rw [hcs, h1]; omega
  have hrun := run_storeCells_at P g i E [u] 0 cur w hg' (by simp; omega) (by simpa using hu1)
  refine .inr (.inl ⟨w.setRow g (cur.toList.take i ++ [u] ++ cur.toList.drop (i + 1)).toArray, ?_, ⟨rfl, rfl, rfl⟩, rfl, ?_, ?_, by simp [World.setRow]⟩)
  · simp [execOp, ho, hev x _ hx, hev y _ hy, Instr.storeAt, Instr.sureAddr, storeVar, hc, sizeOf, typeInfo, hinf, hsz, add_lit, h1] at hrun ⊢
    simp [hrun]
  · have hxl : xs.length = l.length := by rw [hl, h1, Nat.mul_one]
    refine ⟨xs.set i u, ⟨by rw [List.length_set, List.length_set]; exact hl, .inr ⟨g, cap, _, by rw [List.length_set], hb, setRow_heap w g _ _ E _ hg', by rw [List.length_set]; exact hnc, hcm, ?_, ?_⟩⟩, ?_⟩
    · have : cur.toList.length = cur.size := rfl
      simp only [List.size_toArray, List.length_append, List.length_take, List.length_drop, List.length_cons, List.length_nil]
      omega
    · have e0 : (cur.toList.take i ++ [u] ++ cur.toList.drop (i + 1)) = cur.toList.set i u := by
        rw [List.set_eq_take_append_cons_drop, if_pos (by simpa using hicur)]; simp
      rw [e0, List.length_set, ← htk]
      simp only [h1, Nat.mul_one]
      rw [List.take_set]
    · have := hr.set hi hz
      rw [h1] at this
      simp only [Nat.mul_one] at this
      rw [List.set_eq_take_append_cons_drop (l := xs), if_pos (by omega)]
      simpa using this
  · exact (setRow_chg ..).mono (by rintro k _ rfl; rfl)

/-- []T{x} and its kin: a new row of just these cells -/
theorem opv_lit1 {t E : TypeId} {x : Operand} {u : Value} {n b : Nat} {zz : Value} (ho : o.op = .buildSlice t 1 #[(0, x)]) (ht : P.underlying t = some (.slice E)) (hinf : elemInfo P E = some (zz, n, b)) (hn : n = 1) (hzz : zz.cells.size = 1) (hx : φ.ev x = some u) (hu : u.oneCell' = true) :
    OpV P φ o h (fun v h' => ∃ g, v = .slice (some ⟨g, 0, none⟩) 1 1 ∧ g = h.size ∧ Ext h h' ∧ h'.size = h.size + 1 ∧ h'[g]? = some (.cells #[u] E (0, 0))) := by
  intro a w hev hw'
  subst hw'
  obtain ⟨i, hi, hz, hs, _⟩ := elemInfo_some hinf
  subst hn
  have hc : u.cells = #[u] := by cases u <;> first | rfl | cases hu
  refine .inl ⟨.slice (some ⟨w.heap.size, 0, none⟩) 1 1, w.alloc (.cells #[u] E), ?_, ⟨rfl, rfl, rfl⟩, w.heap.size, rfl, rfl, ext_push _ _, by simp, heap_alloc_new w _⟩
  have hzs : ∃ q, zz.cells = #[q] := by
    rcases hq : zz.cells with ⟨lq⟩
    rw [hq] at hzz
    obtain ⟨q, rfl⟩ := List.length_eq_one_iff.1 (by simpa using hzz)
    exact ⟨q, rfl⟩
  obtain ⟨q, hq⟩ := hzs
  have hr1 : Array.range 1 = #[0] := by decide
  simp [execOp, ho, hev x _ hx, Instr.buildSlice, run_underlying ht, sizeOf, typeInfo, hi, hs, zeroValue, hz, hq, hr1, Instr.fill, hc, newRow]

theorem opv_lit0 {t E : TypeId} {lo : Nat} (ho : o.op = .buildSlice t 0 #[]) (ht : P.underlying t = some (.slice E)) (hinf : (P.info? E).isSome = true) (hlo : lo ≤ h.size) :
    OpV P φ o h (fun v h' => Own K E lo h' v ([] : List α) ∧ Ext h h' ∧ h'.size = h.size + 1 ∧ ∀ b, v.ownBlock = some b → h.size ≤ b) := by
  intro a w hev hw'
  subst hw'
  obtain ⟨i, hi⟩ := Option.isSome_iff_exists.1 hinf
  refine .inl ⟨.slice (some ⟨w.heap.size, 0, none⟩) 0 0, w.alloc (.cells #[] E), ?_, ⟨rfl, rfl, rfl⟩, ⟨[], ?_, rfl⟩, ext_push _ _, by simp, fun b hb => by simp [Value.ownBlock] at hb; omega⟩
  · have hr0 : Array.range 0 = #[] := by decide
    simp [execOp, ho, Instr.buildSlice, run_underlying ht, sizeOf, typeInfo, hi, Instr.fill, newRow, hr0]
  · exact ⟨by simp, .inr ⟨w.heap.size, 0, #[], rfl, hlo, heap_alloc_new w _, Nat.le_refl _, by decide, by simp, by simp⟩⟩

theorem grown_heap {w w' : World} {row : Option Nat} (g : w.grownBy w' row) : Chg (fun b => row = some b) w.heap w'.heap :=
  ⟨g.size, fun b hb hn => g.block b hb fun e => hn e.symm⟩

/-- append onto a row of the call's own -/
theorem opv_append {t E : TypeId} {x y : Operand} {lo e : Nat} {vy zz : Value} {m : List α} {n b : Nat} (ho : o.op = .call { callee := .builtin .append, args := #[x, y], argTypes := #[t, t] }) (ht : P.underlying t = some (.slice E)) (hinf : elemInfo P E = some (zz, n, b)) (hn : n = K.size) (hzz : zz.cells.size = n)
    (hx : φ.ev x = some v) (hy : φ.ev y = some vy) (H : Own K E lo h v l) (hlo : lo ≤ h.size) (HY : SL K e h vy m) (hfit : (l.length + m.length) * b ≤ 140737488355328) (hb : 0 < b) :
    OpV P φ o h (fun u h' => Own K E lo h' u (l ++ m) ∧ Chg (fun k => v.ownBlock = some k) h h' ∧ ∀ k, u.ownBlock = some k → v.ownBlock = some k ∨ h.size ≤ k) := by
  intro a w hev hw'
  subst hw'
  obtain ⟨i, hi, hz, hs, hby⟩ := elemInfo_some hinf
  obtain ⟨xs, hown, hr⟩ := H
  obtain ⟨ay, c, ys, rfl, ⟨hmc, hry⟩, hc⟩ := HY
  have hml : l.length + m.length ≤ maxLen := by
    have : l.length + m.length ≤ (l.length + m.length) * b := Nat.le_mul_of_pos_right _ hb
    simp only [maxLen]; omega
  have hlen : (xs ++ ys).length = (l.length + m.length) * K.size := by rw [List.length_append, hr.length, hry.length, Nat.add_mul]
  -- the run, by its three ways
  have key : ∃ u w', (Builtin.append_ #[t, t] o.type #[v, .slice ay m.length c]).run P w = .ok u w' ∧ (hw w'.heap).ownsRow lo E K.size u (l.length + m.length) (xs ++ ys) ∧ Chg (fun k => v.ownBlock = some k) w.heap w'.heap ∧ Same w w' ∧
      ∀ k, u.ownBlock = some k → v.ownBlock = some k ∨ w.heap.size ≤ k := by
    rcases hc with rfl | ⟨p, rfl, hsp, hpb, hcell⟩
    · -- nothing appended
      have hys : ys = [] := by simpa [RelL] using hry
      subst hys
      refine ⟨v, w, ?_, by simpa using hown, Chg.refl _ _, Same.refl w, fun k hk => .inl hk⟩
      have hfc : (Builtin.firstCells i.size 0 (.slice ay 0 c)).run P w = .ok #[] w := by cases ay <;> simp [Builtin.firstCells, loadCells, loadCellsFrom]
      rcases hown.2 with ⟨rfl, hn0⟩ | ⟨g, cap, cur, rfl, _, hg, hnc, _⟩
      · simp [Builtin.append_, run_underlying ht, sizeOf, typeInfo, hi, Builtin.lenOf, hfc]
      · simp [Builtin.append_, run_underlying ht, sizeOf, typeInfo, hi, Builtin.lenOf, hfc, hnc, storeCells]
    · have hnews : ∀ j u, ys[j]? = some u → w.cell? (p.add j) = some u := hcell
      have hyl : ys.length = m.length * i.size := by rw [hry.length, hs, hn]
      obtain ⟨u, w', h1, h2, h3, h4⟩ := run_append_own (P := P) w lo t o.type E i zz K.size b ht hi hz (by omega) hby (by omega) K.pos v l.length xs hown p m.length c ys (by rw [hry.length]) hnews hry.one hml hfit hlo
      refine ⟨u, w', h1, h2, grown_heap h3, ⟨h3.tape, h3.os, h3.output⟩, fun k hk => ?_⟩
      -- where the result lies
      rcases hown.2 with ⟨rfl, hn0⟩ | ⟨g, cap, cur, rfl, hbg, hg, hnc, hcm, hcs, htk⟩
      · by_cases hm0 : m.length = 0
        · have := h4.2 ⟨rfl, hm0⟩
          rw [this] at hk
          simp [Value.ownBlock] at hk
        · have hrr := run_append_nil (P := P) w t o.type E i zz ht hi hz p m.length c ys hyl hnews (by omega) (by simp only [maxLen] at hml; omega) (by
            have : m.length * b ≤ (l.length + m.length) * b := Nat.mul_le_mul_right _ (by omega)
            rw [hby]; omega)
          rw [h1] at hrr
          simp only [Result.ok.injEq] at hrr
          rw [hrr.1] at hk
          simp only [Value.ownBlock, Option.some.injEq] at hk
          exact .inr (by omega)
      · by_cases hroom : l.length + m.length ≤ cap
        · have hfit' : l.length * i.size + ys.length ≤ cur.size := by rw [hyl, hcs, hs, ← hn, ← Nat.add_mul]; exact Nat.mul_le_mul_right _ hroom
          have hrr := run_append_room (P := P) w t o.type E i ht hi g l.length cap cur hg p m.length c ys hyl hnews hry.one hroom hfit'
          rw [h1] at hrr
          simp only [Result.ok.injEq] at hrr
          rw [hrr.1] at hk
          exact .inl hk
        · have holds : ∀ j u, xs[j]? = some u → w.cell? ((⟨g, 0, none⟩ : Addr).add j) = some u := World.ownsRow.cells (w := w) hown (g := g) rfl
          have hrr := run_append_grow (P := P) w t o.type E i zz ht hi hz ⟨g, 0, none⟩ l.length cap xs (by rw [hr.length, hs, hn]) holds p m.length c ys hyl hnews (by omega) (by simp only [maxLen] at hml; omega) (growslice_fits (by omega) (by rw [hby]; exact hfit))
          rw [h1] at hrr
          simp only [Result.ok.injEq] at hrr
          rw [hrr.1] at hk
          simp only [Value.ownBlock, Option.some.injEq] at hk
          exact .inr (by omega)
  obtain ⟨u, w', h1, h2, h3, h4, h5⟩ := key
  refine .inl ⟨u, w', ?_, h4, ⟨xs ++ ys, by rw [List.length_append]; exact h2, hr.append hry⟩, h3, h5⟩
  simp [execOp, ho, resolve, hev x _ hx, hev y _ hy, invoke, builtin, h1]
end
end Go.H

/- Makes, cuts, loads of aggregates, complex numbers, strings. -/
namespace Go.H
open Go

section
variable {P : Program} {φ : Fr} {h : Heap} {o : Oper} {α : Type} {K : Kd α} {e : Nat} {v : Value} {l : List α}

theorem made_rel {z : Value} {x : α} {us : List Value} (hz : z.cells.toList = us) (hr : K.rel x us) (n : Nat) : RelL K (List.replicate n x) (madeCells z.cells (n * K.size)).toList := by
  have hs := K.len x us hr
  have key : (madeCells z.cells (n * K.size)).toList = (List.replicate n us).flatten := by
    have hzs : z.cells.size = K.size := by rw [← hs, ← hz]; rfl
    refine List.ext_getElem? fun i => ?_
    have hfl : (List.replicate n us).flatten.length = n * K.size := by simp [hs]
    rcases Nat.lt_or_ge i (n * K.size) with hi | hi
    · have h1 : (madeCells z.cells (n * K.size)).toList[i]? = some (z.cells[i % K.size]!) := by
        simp [madeCells, hi, hzs]
      rw [h1]
      have hmod : i % K.size < K.size := Nat.mod_lt _ K.pos
      have h2 : (List.replicate n us).flatten[i]? = us[i % K.size]? := by
        clear h1 hfl
        induction n generalizing i with
        | zero => simp at hi
        | succ n ih =>
          rw [List.replicate_succ, List.flatten_cons]
          rcases Nat.lt_or_ge i K.size with h3 | h3
          · rw [List.getElem?_append_left (by omega), Nat.mod_eq_of_lt h3]
          · rw [List.getElem?_append_right (by omega), hs]
            have := ih (i - K.size) (by rw [Nat.add_mul, Nat.one_mul] at hi; omega) (Nat.mod_lt _ K.pos)
            rw [this, Nat.mod_eq_sub_mod h3]
      rw [h2, ← hz]
      simp [hzs, hmod]
    · rw [List.getElem?_eq_none (by simp [size_madeCells]; omega), List.getElem?_eq_none (by omega)]
  rw [key]
  exact RelL.replicate hr n

/-- make([]T, n) -/
theorem opv_make {t E : TypeId} {x y : Operand} {kl kc : IntKind} {lo n b : Nat} {m : Int} {zz : Value} {zx : α} {us : List Value} (ho : o.op = .makeSlice t x y) (ht : P.underlying t = some (.slice E)) (hinf : elemInfo P E = some (zz, n, b)) (hn : n = K.size) (hz : zz.cells.toList = us) (hr : K.rel zx us)
    (hx : φ.ev x = some (.int kl m)) (hy : φ.ev y = some (.int kc m)) (h0 : 0 ≤ m) (hfit : b * m.toNat ≤ 281474976710656) (hmax : m.toNat ≤ maxLen) (hlo : lo ≤ h.size) :
    OpV P φ o h (fun v h' => Own K E lo h' v (List.replicate m.toNat zx) ∧ Ext h h' ∧ ∀ k, v.ownBlock = some k → h.size ≤ k) := by
  intro a w hev hw'
  subst hw'
  obtain ⟨i, hi, hiz, hs, hby⟩ := elemInfo_some hinf
  obtain ⟨k, rfl⟩ : ∃ k : Nat, m = k := ⟨m.toNat, by omega⟩
  simp only [Int.toNat_natCast] at *
  obtain ⟨w', h1, h2, h3⟩ := run_make_full (P := P) w lo t E i zz K.size ht hi hiz (by omega) kl kc k (by rw [hby]; exact hfit) hmax hlo
  refine .inl ⟨_, w', by simp [execOp, ho, hev x _ hx, hev y _ hy, h1]; rfl, ⟨h3.tape, h3.os, h3.output⟩, ⟨_, by rw [List.length_replicate]; exact h2, made_rel hz hr k⟩, (grown_heap h3).ext (fun _ _ hk => by cases hk), fun b hb => ?_⟩
  simp only [Value.ownBlock, Option.some.injEq] at hb
  omega

def sub {α : Type} (l : List α) (i j : Int) : Option (List α) := if 0 ≤ i ∧ i ≤ j ∧ j ≤ l.length then some ((l.drop i.toNat).take (j.toNat - i.toNat)) else none

theorem add_add (p : Addr) (i j : Nat) (hs : p.spot = none) : (p.add i).add j = p.add (i + j) := by
  obtain ⟨b, o, s⟩ := p
  simp at hs
  subst hs
  rw [add_lit, add_lit, add_lit, Nat.add_assoc]

/-- xs[i:j] -/
theorem opv_cut {t E : TypeId} {x : Operand} {lo hi : Option Operand} {i j : Int} {m : List α} (ho : o.op = .slice t x lo hi none) (ht : P.underlying t = some (.slice E)) (hsz : (P.info? E).map (·.size) = some K.size) (hx : φ.ev x = some v)
    (hlo : (lo = none ∧ i = 0) ∨ ∃ y k, lo = some y ∧ φ.ev y = some (.int k i)) (hhi : (hi = none ∧ j = l.length) ∨ ∃ y k, hi = some y ∧ φ.ev y = some (.int k j)) (H : SL K e h v l) (hm : sub l i j = some m) :
    OpV P φ o h (fun u h' => SL K e h u m ∧ h = h') := by
  intro a w hev hw'
  subst hw'
  obtain ⟨p, c, xs, rfl, ⟨hlc, hr⟩, hc⟩ := H
  unfold sub at hm
  split at hm
  case isFalse => cases hm
  rename_i hb
  obtain ⟨h0, h1, h2⟩ := hb
  cases hm
  obtain ⟨info, hinfo, hsize⟩ := Option.map_eq_some_iff.1 hsz
  have hml : ((l.drop i.toNat).take (j.toNat - i.toNat)).length = j.toNat - i.toNat := by simp; omega
  refine .inl ⟨.slice (if c = i.toNat then p else p.map (·.add (i.toNat * K.size))) (j.toNat - i.toNat) (c - i.toNat), w, ?_, Same.refl w, ⟨_, _, (xs.drop (i.toNat * K.size)).take ((j.toNat - i.toNat) * K.size), by rw [hml], ⟨by omega, (hr.drop _).take _⟩, ?_⟩, rfl⟩
  · have hbounds : ∀ w : World, (Instr.sliceBounds true l.length c (lo.map a.eval) (hi.map a.eval) none).run P w = .ok (i.toNat, j.toNat, c) w := by
      intro w
      have hj : (j : Int) ≤ (c : Int) := by omega
      rcases hhi with ⟨rfl, rfl⟩ | ⟨y, k, rfl, hy⟩ <;> rcases hlo with ⟨rfl, rfl⟩ | ⟨z, k', rfl, hz⟩
      · simp [Instr.sliceBounds]
      · simp [Instr.sliceBounds, Instr.sliceBound, asIntOf, hev z _ hz, h0, h1]
      · simp [Instr.sliceBounds, Instr.sliceBound, asIntOf, hev y _ hy, h1, hj]
      · have : 0 ≤ j := by omega
        simp [Instr.sliceBounds, Instr.sliceBound, asIntOf, hev y _ hy, hev z _ hz, h0, hj, this]
        intro hh
        omega
    have hrun : (Instr.sliceAt t (.slice p l.length c) (lo.map a.eval) (hi.map a.eval) none).run P w = .ok (.slice (if c = i.toNat then p else p.map (·.add (i.toNat * K.size))) (j.toNat - i.toNat) (c - i.toNat)) w := by
      simp [Instr.sliceAt, run_underlying ht, Instr.slice, hbounds, sizeOf, typeInfo, hinfo, hsize]
    have hx' := hev x _ hx
    simp only [execOp, ho, hx', Option.map_none]
    simp [hrun]
  · by_cases hemp : j.toNat - i.toNat = 0
    · exact .inl (by rw [hemp]; simp)
    · refine .inr ?_
      rcases hc with rfl | ⟨q, rfl, hsp, hqb, hcell⟩
      · simp at h2; omega
      · have hne : ¬ c = i.toNat := by omega
        refine ⟨q.add (i.toNat * K.size), by rw [if_neg hne]; rfl, ?_, by rw [addBlock]; exact hqb, fun k u hk => ?_⟩
        · obtain ⟨b, off, s⟩ := q
          simp at hsp
          subst hsp
          rw [add_lit]
        · rw [add_add _ _ _ hsp]
          rw [List.getElem?_take] at hk
          split at hk
          · rw [List.getElem?_drop] at hk; exact hcell _ _ hk
          · cases hk
end
end Go.H

/- More single operations: constants, complex numbers, bits, the least and the greatest. -/
namespace Go.H
open Go

theorem isF_lit (k : FloatKind) (b : Nat) (hb : b < 2 ^ k.format.width) (hn : (k.format.read b).isNaN = false) : IsF k (.float k b) (some b) := isF_bits hb hn
theorem isC_lit (k : FloatKind) (a b : Nat) (ha : a < 2 ^ k.format.width) (hb : b < 2 ^ k.format.width) (hna : (k.format.read a).isNaN = false) (hnb : (k.format.read b).isNaN = false) : IsC k (.complex k a b) (some a, some b) :=
  ⟨a, b, rfl, ha, hb, cls_some.2 ⟨rfl, hna⟩, cls_some.2 ⟨rfl, hnb⟩⟩

def bits (op : BinOp) (k : IntKind) (x y : Int) : Int := match op with
  | .and => k.wrap (BitVec.ofInt k.bits x &&& BitVec.ofInt k.bits y).toNat
  | .or => k.wrap (BitVec.ofInt k.bits x ||| BitVec.ofInt k.bits y).toNat
  | .xor => k.wrap (BitVec.ofInt k.bits x ^^^ BitVec.ofInt k.bits y).toNat
  | .shl => k.wrap (x * 2 ^ (min y.toNat k.bits))
  | .shr => x.fdiv (2 ^ (min y.toNat k.bits))
  | _ => 0

def imin (x y : Int) : Int := if y < x then y else x
def imax (x y : Int) : Int := if y > x then y else x

def cop (op : BinOp) (k : FloatKind) (x y : Option Nat × Option Nat) : Option Nat × Option Nat := (fop op k x.1 y.1, fop op k x.2 y.2)
def ccmp (op : BinOp) (k : FloatKind) (x y : Option Nat × Option Nat) : Bool := match op with
  | .eql => feq k x.1 y.1 && feq k x.2 y.2
  | .neq => !(feq k x.1 y.1 && feq k x.2 y.2)
  | _ => false

/-- the same number in 64 bits -/
def wid (x : Option Nat) : Option Nat := (fcv .f32 .f64 x).getD none
def cwid (x : Option Nat × Option Nat) : Option Nat × Option Nat := (wid x.1, wid x.2)

section
variable {P : Program} {φ : Fr} {h : Heap} {o : Oper}

theorem opv_bits {op : BinOp} {t t' : TypeId} {x y : Operand} {k : IntKind} {m n : Int} (ho : o.op = .binOp op t x y t') (hop : (match op with | .and | .or | .xor => true | _ => false) = true) (hx : φ.ev x = some (.int k m)) (hy : φ.ev y = some (.int k n)) : OpV P φ o h (Det (.int k (bits op k m n)) h) := by
  intro a w hev hw
  refine .inl ⟨_, w, ?_, Same.refl w, rfl, hw.symm⟩
  cases op <;> simp at hop <;> simp [execOp, ho, hev x _ hx, hev y _ hy, eqGuard, binOp, Op.intBits, bits]

theorem opv_shift {op : BinOp} {t t' : TypeId} {x y : Operand} {k j : IntKind} {m n : Int} (ho : o.op = .binOp op t x y t') (hop : (match op with | .shl | .shr => true | _ => false) = true) (hn : 0 ≤ n) (hx : φ.ev x = some (.int k m)) (hy : φ.ev y = some (.int j n)) : OpV P φ o h (Det (.int k (bits op k m n)) h) := by
  intro a w hev hw
  refine .inl ⟨_, w, ?_, Same.refl w, rfl, hw.symm⟩
  have hn' : ¬ n < 0 := by omega
  cases op <;> simp at hop <;> simp [execOp, ho, hev x _ hx, hev y _ hy, eqGuard, binOp, Op.shift, bits, hn']

def bcmp (op : BinOp) (m n : Bool) : Bool := match op with | .eql => m == n | _ => m != n

theorem opv_bcmp {op : BinOp} {t t' : TypeId} {x y : Operand} {m n : Bool} (ho : o.op = .binOp op t x y t') (hop : (match op with | .eql | .neq => true | _ => false) = true) (ht : P.underlying t = some .bool) (hx : φ.ev x = some (.bool m)) (hy : φ.ev y = some (.bool n)) : OpV P φ o h (Det (.bool (bcmp op m n)) h) := by
  intro a w hev hw
  refine .inl ⟨_, w, ?_, Same.refl w, rfl, hw.symm⟩
  have he : (Op.equal t (.bool m) (.bool n)).run P w = .ok (m == n) w := by
    show (Op.equalIn (9999 + 1) t (.bool m) (.bool n)).run P w = _
    unfold Op.equalIn
    simp only [Sem.run_bind, run_underlying ht, Result.andThen_ok]
    rfl
  have h1 : (binOp .eql t (.bool m) (.bool n)).run P w = .ok (.bool (m == n)) w := by
    show (do pure (Value.bool (← Op.equal t (.bool m) (.bool n))) : Sem Value).run P w = _
    simp only [Sem.run_bind, he, Result.andThen_ok]
    rfl
  have h2 : (binOp .neq t (.bool m) (.bool n)).run P w = .ok (.bool (!(m == n))) w := by
    show (do pure (Value.bool (!(← Op.equal t (.bool m) (.bool n)))) : Sem Value).run P w = _
    simp only [Sem.run_bind, he, Result.andThen_ok]
    rfl
  have g1 : ∀ op, (eqGuard op t x y (.bool m) (.bool n)).run P w = .ok () w := fun op => by cases op <;> rfl
  cases op <;> simp at hop
  · simp only [execOp, ho, hev x _ hx, hev y _ hy, Sem.run_bind, g1, Result.andThen_ok, h1]; rfl
  · simp only [execOp, ho, hev x _ hx, hev y _ hy, Sem.run_bind, g1, Result.andThen_ok, h2]; rfl

theorem opv_min2 {x y : Operand} {ts : Array TypeId} {k k' : IntKind} {m n : Int} (ho : o.op = .call { callee := .builtin .min, args := #[x, y], argTypes := ts }) (hx : φ.ev x = some (.int k m)) (hy : φ.ev y = some (.int k' n)) : OpV P φ o h (Det (.int k (imin m n)) h) := by
  intro a w hev hw
  refine .inl ⟨_, w, ?_, Same.refl w, rfl, hw.symm⟩
  simp [execOp, ho, resolve, hev x _ hx, hev y _ hy, invoke, builtin, Builtin.min_, Builtin.min2, imin]
theorem opv_max2 {x y : Operand} {ts : Array TypeId} {k k' : IntKind} {m n : Int} (ho : o.op = .call { callee := .builtin .max, args := #[x, y], argTypes := ts }) (hx : φ.ev x = some (.int k m)) (hy : φ.ev y = some (.int k' n)) : OpV P φ o h (Det (.int k (imax m n)) h) := by
  intro a w hev hw
  refine .inl ⟨_, w, ?_, Same.refl w, rfl, hw.symm⟩
  simp [execOp, ho, resolve, hev x _ hx, hev y _ hy, invoke, builtin, Builtin.max_, Builtin.max2, imax]
theorem opv_min4 {x y z u : Operand} {ts : Array TypeId} {k k' k'' k3 : IntKind} {m n p q : Int} (ho : o.op = .call { callee := .builtin .min, args := #[x, y, z, u], argTypes := ts }) (hx : φ.ev x = some (.int k m)) (hy : φ.ev y = some (.int k' n)) (hz : φ.ev z = some (.int k'' p)) (hu : φ.ev u = some (.int k3 q)) : OpV P φ o h (Det (.int k (imin (imin (imin m n) p) q)) h) := by
  intro a w hev hw
  refine .inl ⟨_, w, ?_, Same.refl w, rfl, hw.symm⟩
  simp [execOp, ho, resolve, hev x _ hx, hev y _ hy, hev z _ hz, hev u _ hu, invoke, builtin, Builtin.min_, Builtin.min2, imin]
  rfl

abbrev Cpx (k : FloatKind) (x : Option Nat × Option Nat) (h : Heap) : Value → Heap → Prop := fun v h' => IsC k v x ∧ h = h'

theorem opv_complex {x y : Operand} {ts : Array TypeId} {k : FloatKind} {u v : Value} {m n : Option Nat} (ho : o.op = .call { callee := .builtin .complex, args := #[x, y], argTypes := ts }) (hx : φ.ev x = some u) (hy : φ.ev y = some v) (hu : IsF k u m) (hv : IsF k v n) : OpV P φ o h (Cpx k (m, n) h) := by
  intro a w hev hw
  obtain ⟨b, rfl, hb, hb2⟩ := hu
  obtain ⟨c, rfl, hc, hc2⟩ := hv
  exact .inl ⟨.complex k b c, w, by simp [execOp, ho, resolve, hev x _ hx, hev y _ hy, invoke, builtin, run_complex], Same.refl w, ⟨b, c, rfl, hb, hc, hb2, hc2⟩, hw.symm⟩
theorem opv_real {x : Operand} {ts : Array TypeId} {k : FloatKind} {u : Value} {m : Option Nat × Option Nat} (ho : o.op = .call { callee := .builtin .real, args := #[x], argTypes := ts }) (hx : φ.ev x = some u) (hu : IsC k u m) : OpV P φ o h (Flt k m.1 h) := by
  intro a w hev hw
  obtain ⟨b, c, rfl, hb, hc, hb2, hc2⟩ := hu
  exact .inl ⟨.float k b, w, by simp [execOp, ho, resolve, hev x _ hx, invoke, builtin, run_real], Same.refl w, ⟨b, rfl, hb, hb2⟩, hw.symm⟩
theorem opv_imag {x : Operand} {ts : Array TypeId} {k : FloatKind} {u : Value} {m : Option Nat × Option Nat} (ho : o.op = .call { callee := .builtin .imag, args := #[x], argTypes := ts }) (hx : φ.ev x = some u) (hu : IsC k u m) : OpV P φ o h (Flt k m.2 h) := by
  intro a w hev hw
  obtain ⟨b, c, rfl, hb, hc, hb2, hc2⟩ := hu
  exact .inl ⟨.float k c, w, by simp [execOp, ho, resolve, hev x _ hx, invoke, builtin, run_imag], Same.refl w, ⟨c, rfl, hc, hc2⟩, hw.symm⟩

/-- '+', '-', '*', '/' of floats, once more: its run -/
def isAr : BinOp → Bool
  | .add | .sub | .mul | .quo => true
  | _ => false

theorem arith_run {op : BinOp} (hop : isAr op = true) (k : FloatKind) (a b : Nat) (w : World) :
    ∃ r w', (Op.floatArith op k a b).run P w = .ok (.float k r) w' ∧ Same w w' ∧ w'.heap = w.heap ∧ r < 2 ^ k.format.width ∧ cls k r = fop op k (cls k a) (cls k b) := by
  rw [fop_cls]
  cases hb : floatBits op k a b with
  | some r => exact ⟨r, w, run_floatArith w hb, Same.refl w, rfl, floatBits_lt hb, cls_some.2 ⟨rfl, (floatBits_nan hb).1⟩⟩
  | none =>
    have hc := nan_cut a b (w.tape w.drawn (.nanBits k a b)) k (.nanBits k a b) (.inl rfl)
    refine ⟨(Question.nanBits k a b).cut (w.tape w.drawn (.nanBits k a b)), w.drew, ?_, Same.drew w, rfl, hc.1, hc.2⟩
    unfold floatBits at hb
    cases op <;> simp [isAr] at hop <;> simp only at hb <;> simp [Op.floatArith, hb, Question.forced]

theorem opv_cop {op : BinOp} {t t' : TypeId} {x y : Operand} {k : FloatKind} {u v : Value} {m n : Option Nat × Option Nat} (ho : o.op = .binOp op t x y t') (hop : (match op with | .add | .sub => true | _ => false) = true) (hx : φ.ev x = some u) (hy : φ.ev y = some v) (hu : IsC k u m) (hv : IsC k v n) : OpV P φ o h (Cpx k (cop op k m n) h) := by
  intro a w hev hw
  obtain ⟨b, c, rfl, _, _, hb2, hc2⟩ := hu
  obtain ⟨d, e, rfl, _, _, hd2, he2⟩ := hv
  have hop' : isAr op = true := by cases op <;> simp at hop <;> rfl
  obtain ⟨r1, w1, h1, s1, e1, l1, c1⟩ := arith_run (P := P) hop' k b d w
  obtain ⟨r2, w2, h2, s2, e2, l2, c2⟩ := arith_run (P := P) hop' k c e w1
  refine .inl ⟨.complex k r1 r2, w2, ?_, s1.trans s2, ⟨r1, r2, rfl, l1, l2, ?_, ?_⟩, by rw [e2, e1]; exact hw.symm⟩
  · cases op <;> simp at hop <;> simp [execOp, ho, hev x _ hx, hev y _ hy, eqGuard, binOp, Op.complexOp, Op.Complex.arith, h1, h2]
  · rw [c1, hb2, hd2]; rfl
  · rw [c2, hc2, he2]; rfl

theorem opv_ccmp {op : BinOp} {t t' : TypeId} {x y : Operand} {k : FloatKind} {u v : Value} {m n : Option Nat × Option Nat} (ho : o.op = .binOp op t x y t') (hop : (match op with | .eql | .neq => true | _ => false) = true) (hx : φ.ev x = some u) (hy : φ.ev y = some v) (hu : IsC k u m) (hv : IsC k v n) : OpV P φ o h (Det (.bool (ccmp op k m n)) h) := by
  intro a w hev hw
  obtain ⟨b, c, rfl, _, _, hb2, hc2⟩ := hu
  obtain ⟨d, e, rfl, _, _, hd2, he2⟩ := hv
  refine .inl ⟨_, w, ?_, Same.refl w, rfl, hw.symm⟩
  cases op <;> simp at hop <;> simp [execOp, ho, hev x _ hx, hev y _ hy, eqGuard, binOp, Op.complexOp, Op.Complex.cmp, Op.floatCmp, ccmp, feq, order_cls, asBool, hb2, hc2, hd2, he2]

theorem opv_loadC {k : FloatKind} {l : List (Option Nat × Option Nat)} {e : Nat} {v : Value} {t : TypeId} {x : Operand} {u : Value} {n : Int} {y : Option Nat × Option Nat} (ho : o.op = .load t x) (ht : oneCellT P t = true) (hx : φ.ev x = some u) (hp : PtI 1 u v n.toNat) (H : SL (kC k) e h v l) (hy : idx l n = some y) : OpV P φ o h (Cpx k y h) :=
  (opv_loadE (K := kC k) ho ht rfl hx hp H (idx_some hy).2.2).mono (by rintro r _ ⟨⟨w, hw, hf⟩, rfl⟩; simp at hw; subst hw; exact ⟨hf, rfl⟩)

theorem fcv_widen {b : Nat} {x : Option Nat} (hx : cls .f32 b = x) : ∃ r, fcv .f32 .f64 x = some r ∧ wid x = r := by
  cases hc : cls .f32 b with
  | none => subst hx; rw [hc]; exact ⟨none, rfl, rfl⟩
  | some c =>
    obtain ⟨rfl, hn⟩ := cls_some.1 hc
    subst hx
    rw [hc]
    obtain ⟨r, hr⟩ := widen_some (b := c) hn
    exact ⟨some r, by simp [fcv, hr], by simp [wid, fcv, hr]⟩

theorem opv_widen {src dst : TypeId} {x : Operand} {u : Value} {m : Option Nat} (ho : o.op = .convert src dst x) (hs : (P.underlying src).isSome = true) (hd : P.underlying dst = some (.float .f64)) (hx : φ.ev x = some u) (hu : IsF .f32 u m) : OpV P φ o h (Flt .f64 (wid m) h) := by
  obtain ⟨b, e1, e2, e3⟩ := hu
  obtain ⟨r, h1, h2⟩ := fcv_widen e3
  rw [h2]
  exact opv_f2f ho hs hd (by decide) hx ⟨b, e1, e2, e3⟩ h1

/-- a conversion of floats, once more: its run -/
theorem f2f_run {s j : FloatKind} (hsj : s ≠ j) {b : Nat} {r : Option Nat} (hr : fcv s j (cls s b) = some r) (w : World) : ∃ q w', (Conv.floatToFloat s b j).run P w = .ok (.float j q) w' ∧ Same w w' ∧ w'.heap = w.heap ∧ q < 2 ^ j.format.width ∧ cls j q = r := by
  cases hc : cls s b with
  | none =>
    rw [hc] at hr
    simp only [fcv, Option.some.injEq] at hr
    subst hr
    obtain ⟨sg, t, e⟩ := datum_nan (read_nan_none.1 hc)
    have hcut := nan_cut b 0 (w.tape w.drawn (.nanConv j b)) j (.nanConv j b) (.inr rfl)
    have e' : s.decode b = .nan sg t := e
    exact ⟨_, w.drew, by simp [Conv.floatToFloat, hsj, e', Question.forced], Same.drew w, rfl, hcut.1, hcut.2⟩
  | some c =>
    have hcb := (cls_some.1 hc).1
    subst hcb
    rw [hc] at hr
    simp only [fcv] at hr
    cases hf : floatToFloatBits s c j with
    | none => rw [hf] at hr; cases hr
    | some q =>
      rw [hf] at hr
      simp only [Option.map_some, Option.some.injEq] at hr
      subst hr
      have hq : q < 2 ^ j.format.width ∧ (j.format.read q).isNaN = false := by
        have hf' := hf
        unfold floatToFloatBits at hf'
        rw [if_neg hsj] at hf'
        split at hf'
        · cases hf'
        · cases hf'; exact ⟨j.format.write_lt _, not_nan_write _ rfl⟩
        · split at hf'
          · cases hf'
          · cases hf'; exact ⟨j.format.write_lt _, not_nan_write _ rfl⟩
      exact ⟨q, w, run_floatToFloat w hf, Same.refl w, rfl, hq.1, cls_some.2 ⟨rfl, hq.2⟩⟩

theorem opv_cwiden {src dst : TypeId} {x : Operand} {u : Value} {m : Option Nat × Option Nat} (ho : o.op = .convert src dst x) (hs : (P.underlying src).isSome = true) (hd : P.underlying dst = some (.complex .f64)) (hx : φ.ev x = some u) (hu : IsC .f32 u m) : OpV P φ o h (Cpx .f64 (cwid m) h) := by
  intro a w hev hw
  obtain ⟨b, c, rfl, hb, hc, hb2, hc2⟩ := hu
  obtain ⟨du, hs'⟩ := Option.isSome_iff_exists.1 hs
  obtain ⟨r1, h1, e1⟩ := fcv_widen hb2
  obtain ⟨r2, h2, e2⟩ := fcv_widen hc2
  obtain ⟨q1, w1, g1, s1, t1, l1, c1⟩ := f2f_run (P := P) (s := .f32) (j := .f64) (by decide) (b := b) (by rw [hb2]; exact h1) w
  obtain ⟨q2, w2, g2, s2, t2, l2, c2⟩ := f2f_run (P := P) (s := .f32) (j := .f64) (by decide) (b := c) (by rw [hc2]; exact h2) w1
  refine .inl ⟨.complex .f64 q1 q2, w2, ?_, s1.trans s2, ⟨q1, q2, rfl, l1, l2, by rw [c1, ← e1]; rfl, by rw [c2, ← e2]; rfl⟩, by rw [t2, t1]; exact hw.symm⟩
  cases du <;> simp [execOp, ho, hev x _ hx, convert, run_underlying hs', run_underlying hd, Conv.complexToComplex, g1, g2]
end
end Go.H

/- Functions of Go's library that have no Go text, and the few over them. -/
namespace Go.H
open Go

def fsqrt (x : Option Nat) : Option Nat := x.bind fun b => FloatKind.f64.format.sqrt b
def fabs (x : Option Nat) : Option Nat := x.map fun b => b % 2 ^ 63
def fsign (x : Option Nat) : Option Bool := x.map fun b => decide (2 ^ 63 ≤ b)
/-- the bits of a number; of a not-a-number nothing is told -/
def fbits (x : Option Nat) : Option Int := x.map fun b => (b : Int)
/-- the number with these bits -/
def ffrom (k : FloatKind) (n : Int) : Option (Option Nat) := if 0 ≤ n ∧ n.toNat < 2 ^ k.format.width then some (cls k n.toNat) else none

section
variable {P : Program} {φ : Fr} {h : Heap} {o : Oper}

theorem opv_ext {c : Operand} {xs : List Operand} {ts : Array TypeId} {vs : List Value} {f : FuncId} {fn : Func} {e : Array Value → Sem Value} {K : Value → Prop}
    (ho : o.op = .call { callee := .value c, args := xs.toArray, argTypes := ts }) (hc : φ.ev c = some (.func (.func f) #[] #[])) (hx : φ.evs xs vs)
    (hf : P.funcs[f]? = some fn) (hn : (fn.name == "runtime.NumGoroutine") = false) (hb : fn.body.isNone = true) (hn2 : Extern.findNext fn = none) (he : Extern.find fn = some e)
    (hr : ∀ w, ∃ v w', (e vs.toArray).run P w = .ok v w' ∧ Same w w' ∧ w'.heap = w.heap ∧ K v) : OpV P φ o h (fun v h' => K v ∧ h = h') := by
  intro a w hev hw
  obtain ⟨v, w', h1, h2, h3, h4⟩ := hr w
  refine .inl ⟨v, w', ?_, h2, h4, by rw [h3]; exact hw.symm⟩
  have hm : xs.map a.eval = vs := Fr.evs_map hev hx
  have hm' : xs.toArray.map a.eval = vs.toArray := by simp [hm]
  have := run_callFunc_extern (P := P) hf hn hb hn2 he vs.toArray w
  simp [execOp, ho, resolve, hev c _ hc, hm', Deferred.ofValue, invoke, this, h1]

theorem sqrt_run {u : Value} {x : Option Nat} (hu : IsF .f64 u x) (w : World) : ∃ v w', (Extern.MathSqrt.sqrt [u].toArray).run P w = .ok v w' ∧ Same w w' ∧ w'.heap = w.heap ∧ IsF .f64 v (fsqrt x) := by
  obtain ⟨b, rfl, hb, hb2⟩ := hu
  have key : fsqrt x = FloatKind.f64.format.sqrt b := by
    unfold fsqrt
    cases hc : cls .f64 b with
    | some c => rw [← hb2, hc]; rw [(cls_some.1 hc).1]; rfl
    | none =>
      rw [← hb2, hc]
      obtain ⟨s, t, e⟩ := datum_nan (read_nan_none.1 hc)
      simp [Ieee.Format.sqrt, e, Ieee.Datum.root]
  have hrun : Extern.MathSqrt.sqrt [Value.float .f64 b].toArray = (match FloatKind.f64.format.sqrt b with
    | some r => (pure (Value.float .f64 r) : Sem Value)
    | none => do pure (Value.float .f64 (← choose (.nanBits .f64 b b)))) := rfl
  cases hs : FloatKind.f64.format.sqrt b with
  | some r =>
    have hnan : (FloatKind.f64.format.read r).isNaN = false := by
      obtain ⟨d, hd, rfl⟩ := map_write hs
      refine not_nan_write _ ?_
      unfold Ieee.Datum.root at hd
      split at hd
      · cases hd
      · split at hd <;> cases hd; rfl
      · split at hd
        · cases hd; rfl
        · split at hd
          · cases hd
          · cases hd; rfl
    exact ⟨.float .f64 r, w, by rw [hrun, hs]; rfl, Same.refl w, rfl, by rw [key, hs]; exact isF_bits (FloatKind.f64.format.sqrt_lt hs) hnan⟩
  | none =>
    have hc := nan_cut b b (w.tape w.drawn (.nanBits .f64 b b)) .f64 (.nanBits .f64 b b) (.inl rfl)
    exact ⟨_, w.drew, by rw [hrun, hs]; simp [Question.forced], Same.drew w, rfl, _, rfl, hc.1, by rw [hc.2, key, hs]⟩

theorem bits_run {k : FloatKind} {u : Value} {b : Nat} (hu : u = .float k b) (w : World) : ∃ v w', ((match k with | .f32 => Extern.MathFloatBits.float32bits | .f64 => Extern.MathFloatBits.float64bits) [u].toArray).run P w = .ok v w' ∧ Same w w' ∧ w'.heap = w.heap ∧ v = .int (match k with | .f32 => .u32 | .f64 => .u64) b := by
  subst hu
  cases k <;> exact ⟨_, w, rfl, Same.refl w, rfl, rfl⟩

theorem bits32_run {u : Value} {x : Option Nat} {n : Int} (hu : IsF .f32 u x) (hn : fbits x = some n) (w : World) : ∃ v w', (Extern.MathFloatBits.float32bits [u].toArray).run P w = .ok v w' ∧ Same w w' ∧ w'.heap = w.heap ∧ .int .u32 n = v := by
  obtain ⟨b, rfl, _, hb⟩ := hu
  unfold fbits at hn
  cases hx : x with
  | none => rw [hx] at hn; cases hn
  | some c =>
    rw [hx] at hn hb
    have := (cls_some.1 hb).1
    subst this
    cases hn
    exact ⟨_, w, rfl, Same.refl w, rfl, rfl⟩

theorem from32_run {n : Int} {x : Option Nat} (hn : ffrom .f32 n = some x) (w : World) : ∃ v w', (Extern.MathFloatBits.float32frombits [.int .u32 n].toArray).run P w = .ok v w' ∧ Same w w' ∧ w'.heap = w.heap ∧ IsF .f32 v x := by
  unfold ffrom at hn
  split at hn
  · rename_i hb
    cases hn
    exact ⟨_, w, rfl, Same.refl w, rfl, n.toNat, rfl, hb.2, rfl⟩
  · cases hn
theorem from64_run {n : Int} {x : Option Nat} (hn : ffrom .f64 n = some x) (w : World) : ∃ v w', (Extern.MathFloatBits.float64frombits [.int .u64 n].toArray).run P w = .ok v w' ∧ Same w w' ∧ w'.heap = w.heap ∧ IsF .f64 v x := by
  unfold ffrom at hn
  split at hn
  · rename_i hb
    cases hn
    exact ⟨_, w, rfl, Same.refl w, rfl, n.toNat, rfl, hb.2, rfl⟩
  · cases hn
end
end Go.H

/- Aggregates; the absolute value's bits; three results. -/
namespace Go.H
open Go

def aggT (P : Program) (t : TypeId) : Bool := match P.underlying t with
  | some (.struct _) => true
  | some (.array _ _) => true
  | _ => false

theorem run_isAgg {P : Program} {t : TypeId} (ht : aggT P t = true) (w : World) : (isAgg t).run P w = .ok true w := by
  unfold aggT at ht
  cases hu : P.underlying t with
  | none => rw [hu] at ht; cases ht
  | some d => rw [hu] at ht; cases d <;> first | (cases ht; done) | simp [isAgg, run_underlying hu]

theorem run_notAgg {P : Program} {t : TypeId} (ht : oneCellT P t = true) (w : World) : (isAgg t).run P w = .ok false w := by
  unfold oneCellT at ht
  cases hu : P.underlying t with
  | none => rw [hu] at ht; cases ht
  | some d => rw [hu] at ht; cases d <;> first | (cases ht; done) | simp [isAgg, run_underlying hu]

/-- where a field begins, and how many cells it has -/
def fieldAt (P : Program) (s : TypeId) (f : Nat) : Option (Nat × TypeId) := match P.underlying s with
  | some (.struct fs) => (fs[f]?).map fun fd => (fd.offset, fd.type)
  | _ => none

section
variable {P : Program} {φ : Fr} {h : Heap} {o : Oper}

theorem run_loadVar_agg {t : TypeId} {n b k : Nat} {cs us : List Value} (ht : aggT P t = true) (hn : (P.info? t).map (·.size) = some n) (H : Bx h b cs) (hus : (cs.drop k).take n = us) (hl : us.length = n) {w : World} (hw' : w.heap = h) : (loadVar t ⟨b, k, none⟩).run P w = .ok (.agg us.toArray) w := by
  obtain ⟨i, hi, hsz⟩ := Option.map_eq_some_iff.1 hn
  have hcells : (loadCells ⟨b, k, none⟩ n).run P w = .ok us.toArray w := by
    have := run_loadCells_list (P := P) (w := w) ⟨b, k, none⟩ us (fun j v hj => by
      rw [add_lit, cell_hw hw']
      refine H.cell ?_
      rw [← hus, List.getElem?_take] at hj
      split at hj
      · rw [List.getElem?_drop] at hj; exact hj
      · cases hj)
    rw [hl] at this
    exact this
  simp [loadVar, run_isAgg ht, sizeOf, typeInfo, hi, hsz, hcells]

theorem opv_loadA {t : TypeId} {x : Operand} {n b k : Nat} {cs us : List Value} (ho : o.op = .load t x) (ht : aggT P t = true) (hn : (P.info? t).map (·.size) = some n) (hx : φ.ev x = some (.pointer (some ⟨b, k, none⟩))) (H : Bx h b cs) (hus : (cs.drop k).take n = us) (hl : us.length = n) : OpV P φ o h (Det (.agg us.toArray) h) := by
  intro a w hev hw'
  refine .inl ⟨_, w, ?_, Same.refl w, rfl, hw'.symm⟩
  simp [execOp, ho, hev x _ hx, Instr.loadAt, Instr.sureAddr, run_loadVar_agg ht hn H hus hl hw']

theorem opv_field {s t : TypeId} {x : Operand} {f n : Nat} {cs : List Value} {u : Value} (ho : o.op = .field s x f) (hf : fieldAt P s f = some (n, t)) (ht : oneCellT P t = true) (hx : φ.ev x = some (.agg cs.toArray)) (hu : cs[n]? = some u) : OpV P φ o h (Det u h) := by
  intro a w hev hw'
  refine .inl ⟨_, w, ?_, Same.refl w, rfl, hw'.symm⟩
  unfold fieldAt at hf
  split at hf
  · rename_i fs hus
    obtain ⟨fd, hfd, he⟩ := Option.map_eq_some_iff.1 hf
    cases he
    simp [execOp, ho, hev x _ hx, Instr.field, run_underlying hus, hfd, asAgg, part, run_notAgg ht, hu]
  · cases hf

theorem Rt.three {N : Nat} {fn : Func} {R : Value → Heap → Prop} {t u s : Tmp} {v x y : Value} (hr : fn.results = #[.tmp t, .tmp u, .tmp s]) (ht : φ.get t = some v) (hu : φ.get u = some x) (hs : φ.get s = some y) (H : R (.tuple #[v, x, y]) h) : Rt P N fn R .ret φ h :=
  ⟨_, fun a w ho _ => by simp only [results, hr]; simp [ho.slot _ _ ht, ho.slot _ _ hu, ho.slot _ _ hs], H⟩

/-- a result that lies in a cell of its own -/
theorem Rt.cell1 {N : Nat} {fn : Func} {R : Value → Heap → Prop} {p : Tmp} {t : TypeId} {n b : Nat} {cs : List Value} (hr : fn.results = #[.cell p t]) (hp : φ.get p = some (.pointer (some ⟨b, 0, Option.none⟩))) (ht : aggT P t = true) (hn : (P.info? t).map (·.size) = some n) (H : Bx h b cs) (hl : cs.length = n) (HR : R (.agg cs.toArray) h) : Rt P N fn R .ret φ h :=
  ⟨_, fun a w ho hw' => by
    have := run_loadVar_agg (k := 0) (us := cs) ht hn H (by simp [← hl]) hl hw'
    simp only [results, hr]
    simp [ho.slot _ _ hp, asAddr, this], HR⟩
theorem Rt.cellA {N : Nat} {fn : Func} {R : Value → Heap → Prop} {p u : Tmp} {t : TypeId} {n b : Nat} {cs : List Value} {x : Value} (hr : fn.results = #[.cell p t, .tmp u]) (hp : φ.get p = some (.pointer (some ⟨b, 0, Option.none⟩))) (hu : φ.get u = some x) (ht : aggT P t = true) (hn : (P.info? t).map (·.size) = some n) (H : Bx h b cs) (hl : cs.length = n) (HR : R (.tuple #[.agg cs.toArray, x]) h) : Rt P N fn R .ret φ h :=
  ⟨_, fun a w ho hw' => by
    have := run_loadVar_agg (k := 0) (us := cs) ht hn H (by simp [← hl]) hl hw'
    simp only [results, hr]
    simp [ho.slot _ _ hp, ho.slot _ _ hu, asAddr, this], HR⟩
theorem Rt.cellB {N : Nat} {fn : Func} {R : Value → Heap → Prop} {p u s : Tmp} {t : TypeId} {n b : Nat} {cs : List Value} {x y : Value} (hr : fn.results = #[.cell p t, .tmp u, .tmp s]) (hp : φ.get p = some (.pointer (some ⟨b, 0, Option.none⟩))) (hu : φ.get u = some x) (hs : φ.get s = some y) (ht : aggT P t = true) (hn : (P.info? t).map (·.size) = some n) (H : Bx h b cs) (hl : cs.length = n) (HR : R (.tuple #[.agg cs.toArray, x, y]) h) : Rt P N fn R .ret φ h :=
  ⟨_, fun a w ho hw' => by
    have := run_loadVar_agg (k := 0) (us := cs) ht hn H (by simp [← hl]) hl hw'
    simp only [results, hr]
    simp [ho.slot _ _ hp, ho.slot _ _ hu, ho.slot _ _ hs, asAddr, this], HR⟩
end

theorem abs_bits {b : Nat} (hb : b < 18446744073709551616) : (IntKind.wrap .u64 ((BitVec.ofInt 64 (b : Int) &&& ~~~ BitVec.ofInt 64 9223372036854775808).toNat : Int)).toNat = b % 2 ^ 63 := by
  have e1 : (~~~ BitVec.ofInt 64 9223372036854775808) = BitVec.ofNat 64 (2 ^ 63 - 1) := by decide
  rw [e1, BitVec.toNat_and]
  have e2 : (BitVec.ofInt 64 (b : Int)).toNat = b := by
    rw [BitVec.ofInt_natCast, BitVec.toNat_ofNat]; omega
  have e3 : (BitVec.ofNat 64 (2 ^ 63 - 1)).toNat = 2 ^ 63 - 1 := by decide
  rw [e2, e3, Nat.and_two_pow_sub_one_eq_mod]
  have h1 : b % 2 ^ 63 < 2 ^ 63 := Nat.mod_lt _ (by decide)
  generalize b % 2 ^ 63 = c at *
  show (IntKind.wrap .u64 (c : Int)).toNat = c
  have h2 : (c : Int) % (2 ^ IntKind.u64.bits : Int) = c := by
    show (c : Int) % 18446744073709551616 = c
    omega
  unfold IntKind.wrap
  simp only [h2]
  simp [IntKind.signed]

theorem fabs_cls {b : Nat} : cls .f64 (b % 2 ^ 63) = fabs (cls .f64 b) := by
  have hs : FloatKind.f64.format.signWeight = 2 ^ 63 := by decide
  unfold cls fabs
  rw [read_isNaN, read_isNaN, hs, Nat.mod_mod]
  split <;> rfl

section
variable {P : Program} {φ : Fr} {h : Heap} {o : Oper}
theorem opv_andNot {t t' : TypeId} {x y : Operand} {m n : Int} (ho : o.op = .binOp .andNot t x y t') (hx : φ.ev x = some (.int .u64 m)) (hy : φ.ev y = some (.int .u64 n)) : OpV P φ o h (Det (.int .u64 (IntKind.wrap .u64 ((BitVec.ofInt 64 m &&& ~~~ BitVec.ofInt 64 n).toNat : Int))) h) := by
  intro a w hev hw
  refine .inl ⟨_, w, ?_, Same.refl w, rfl, hw.symm⟩
  simp [execOp, ho, hev x _ hx, hev y _ hy, eqGuard, binOp, Op.intBits]
  rfl
end
theorem IsF.one {k : FloatKind} {v : Value} {x : Option Nat} (h : IsF k v x) : v.oneCell' = true := by obtain ⟨b, rfl, _⟩ := h; rfl
theorem IsC.one {k : FloatKind} {v : Value} {x : Option Nat × Option Nat} (h : IsC k v x) : v.oneCell' = true := by obtain ⟨a, b, rfl, _⟩ := h; rfl
theorem SL.one {α : Type} {K : Kd α} {e : Nat} {h : Heap} {v : Value} {l : List α} (H : SL K e h v l) : v.oneCell' = true := by obtain ⟨a, c, xs, rfl, _⟩ := H; rfl

/-- the greater of two floats; not-a-number if one is -/
def fmax (k : FloatKind) (x y : Option Nat) : Option Nat := x.bind fun a => y.bind fun b => match k.format.order a b with
  | none => none
  | some .lt => some b
  | some .gt => some a
  | some .eq => some (if (k.decode a).neg then b else a)

theorem nan_cut_max (x y t : Nat) (m : Bool) (k : FloatKind) : (Question.nanMinMax k m x y).cut t < 2 ^ k.format.width ∧ cls k ((Question.nanMinMax k m x y).cut t) = none := by
  have e : (Question.nanMinMax k m x y).cut t = (Question.nanBits k x y).cut t := by cases k <;> rfl
  rw [e]
  exact nan_cut x y t k _ (.inl rfl)

theorem opv_fmax {P : Program} {φ : Fr} {h : Heap} {o : Oper} {x y : Operand} {ts : Array TypeId} {k : FloatKind} {u v : Value} {m n : Option Nat} (ho : o.op = .call { callee := .builtin .max, args := #[x, y], argTypes := ts }) (hx : φ.ev x = some u) (hy : φ.ev y = some v) (hu : IsF k u m) (hv : IsF k v n) : OpV P φ o h (Flt k (fmax k m n) h) := by
  intro a w hev hw
  obtain ⟨b, rfl, hb, hb2⟩ := hu
  obtain ⟨c, rfl, hc, hc2⟩ := hv
  have hrun : ∀ r w', (Builtin.max2 (.float k b) (.float k c)).run P w = .ok r w' → (execOp a.eval o).run P w = .ok (.value r) w' := by
    intro r w' hr
    simp [execOp, ho, resolve, hev x _ hx, hev y _ hy, invoke, builtin, Builtin.max_, hr]
  have hmax : Builtin.max2 (.float k b) (.float k c) = (match k.format.order b c with
    | none => do pure (.float k (← choose (.nanMinMax k true b c)))
    | some .lt => pure (.float k c)
    | some .gt => pure (.float k b)
    | some .eq => pure (.float k (if (k.decode b).neg then c else b))) := rfl
  cases ho' : k.format.order b c with
  | none =>
    have hcut := nan_cut_max b c (w.tape w.drawn (.nanMinMax k true b c)) true k
    refine .inl ⟨.float k ((Question.nanMinMax k true b c).cut (w.tape w.drawn (.nanMinMax k true b c))), w.drew, ?_, Same.drew w, ⟨_, rfl, hcut.1, ?_⟩, hw.symm⟩
    · refine hrun _ _ ?_
      rw [hmax, ho']
      simp [Question.forced]
    · rw [hcut.2]
      unfold fmax
      cases hm : m with
      | none => rfl
      | some b' =>
        cases hn : n with
        | none => rfl
        | some c' =>
          rw [hm] at hb2; rw [hn] at hc2
          have e1 := (cls_some.1 hb2).1
          have e2 := (cls_some.1 hc2).1
          subst e1; subst e2
          simp [ho']
  | some od =>
    have hbc : m = some b ∧ n = some c := by
      rw [order_cls, hb2, hc2] at ho'
      unfold ford at ho'
      cases hm : m with
      | none => rw [hm] at ho'; cases ho'
      | some b' =>
        cases hn : n with
        | none => rw [hm, hn] at ho'; cases ho'
        | some c' =>
          rw [hm] at hb2; rw [hn] at hc2
          rw [(cls_some.1 hb2).1, (cls_some.1 hc2).1]; exact ⟨rfl, rfl⟩
    obtain ⟨rfl, rfl⟩ := hbc
    have hb3 := (cls_some.1 hb2).2
    have hc3 := (cls_some.1 hc2).2
    cases od with
    | lt => exact .inl ⟨_, w, hrun _ _ (by rw [hmax, ho']; rfl), Same.refl w, by simp [fmax, ho']; exact isF_bits hc hc3, hw.symm⟩
    | gt => exact .inl ⟨_, w, hrun _ _ (by rw [hmax, ho']; rfl), Same.refl w, by simp [fmax, ho']; exact isF_bits hb hb3, hw.symm⟩
    | eq =>
      refine .inl ⟨_, w, hrun _ _ (by rw [hmax, ho']; rfl), Same.refl w, ?_, hw.symm⟩
      simp only [fmax, ho', Option.bind_some]
      split
      · exact isF_bits hc hc3
      · exact isF_bits hb hb3
theorem raw_bits_run {P : Program} (b : Nat) (w : World) : ∃ v w', (Extern.MathFloatBits.float64bits [Value.float .f64 b].toArray).run P w = .ok v w' ∧ Same w w' ∧ w'.heap = w.heap ∧ .int .u64 (b : Int) = v :=
  ⟨_, w, rfl, Same.refl w, rfl, rfl⟩
theorem raw_abs_run {P : Program} {b : Nat} {x : Option Nat} (hb : b < 2 ^ FloatKind.f64.format.width) (hc : cls .f64 b = x) (w : World) : ∃ v w', (Extern.MathFloatBits.float64frombits [.int .u64 (IntKind.wrap .u64 ((BitVec.ofInt 64 (b : Int) &&& ~~~ BitVec.ofInt 64 9223372036854775808).toNat : Int))].toArray).run P w = .ok v w' ∧ Same w w' ∧ w'.heap = w.heap ∧ IsF .f64 v (fabs x) := by
  have hb' : b < 18446744073709551616 := hb
  refine ⟨_, w, rfl, Same.refl w, rfl, _, rfl, ?_, ?_⟩
  · rw [abs_bits hb']
    have : b % 2 ^ 63 < 2 ^ 63 := Nat.mod_lt _ (by decide)
    show _ < 18446744073709551616
    omega
  · rw [abs_bits hb', fabs_cls, hc]
theorem raw_sign {b : Nat} {x : Option Nat} {r : Bool} (hb : b < 2 ^ FloatKind.f64.format.width) (hc : cls .f64 b = x) (hp : fsign x = some r) : decide (IntKind.wrap .i64 (b : Int) < 0) = r := by
  have hb' : b < 18446744073709551616 := hb
  subst hc
  unfold fsign at hp
  cases h : cls .f64 b with
  | none => rw [h] at hp; cases hp
  | some c =>
    rw [h] at hp
    have := (cls_some.1 h).1
    subst this
    cases hp
    rw [decide_eq_decide]
    have h2 : (c : Int) % (2 ^ IntKind.i64.bits : Int) = c := by
      show (c : Int) % 18446744073709551616 = c
      omega
    unfold IntKind.wrap
    simp only [h2]
    show (if (IntKind.i64.signed && decide ((c : Int) ≥ (2 ^ (IntKind.i64.bits - 1) : Int))) = true then _ else _) < 0 ↔ _
    show (if (decide ((c : Int) ≥ 9223372036854775808)) = true then (c : Int) - 18446744073709551616 else c) < 0 ↔ 9223372036854775808 ≤ c
    by_cases hh : (c : Int) ≥ 9223372036854775808
    · simp [hh]; omega
    · simp [hh]; omega
end Go.H
