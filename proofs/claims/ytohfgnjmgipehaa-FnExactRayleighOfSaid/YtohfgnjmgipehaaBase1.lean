/- Frames told in part, a judgement on code over them, its rules. -/
import Derived.WalkKit
import Derived.LoopN
import Derived.Orders
namespace Go.H
open Go

abbrev Heap := Array Obj

structure Same (w w' : World) : Prop where
  tape : w'.tape = w.tape
  os : w'.os = w.os
  output : w'.output = w.output

theorem Same.refl (w : World) : Same w w := ⟨rfl, rfl, rfl⟩
theorem Same.trans {a b c : World} (h : Same a b) (k : Same b c) : Same a c :=
  ⟨k.tape.trans h.tape, k.os.trans h.os, k.output.trans h.output⟩
theorem Same.drawn (w : World) (n : Nat) : Same w { w with drawn := n } := ⟨rfl, rfl, rfl⟩

abbrev Fr := List (Nat × Value)

def Fr.get : Fr → Nat → Option Value
  | [], _ => none
  | (t, v) :: r, s => bif Nat.beq t s then some v else Fr.get r s

def Fr.ev (φ : Fr) : Operand → Option Value
  | .tmp t => φ.get t
  | .const v => some v
  | .global g => some (.pointer (some ⟨g, 0, none⟩))
  | .func f => some (.func (.func f) #[] #[])

structure Ok (N : Nat) (φ : Fr) (a : Act) : Prop where
  defers : a.defers = []
  size : a.tmps.size = N
  slot : ∀ t v, φ.get t = some v → a.tmps[t]? = some v

theorem Ok.eval {N : Nat} {φ : Fr} {a : Act} (h : Ok N φ a) {x : Operand} {v : Value} (hx : φ.ev x = some v) : a.eval x = v := by
  cases x with
  | tmp t => simp [Act.eval, h.slot t v hx]
  | const u => simpa [Fr.ev, Act.eval] using hx
  | global g => simpa [Fr.ev, Act.eval] using hx
  | func f => simpa [Fr.ev, Act.eval] using hx

theorem Ok.put {N : Nat} {φ : Fr} {a : Act} (h : Ok N φ a) {d : Nat} (hd : d < N) (v : Value) : Ok N ((d, v) :: φ) (a.put (some d) v) := by
  refine ⟨h.defers, by simp [Act.put, h.size], fun t u ht => ?_⟩
  simp only [Fr.get] at ht
  by_cases e : d = t
  · subst e
    have : Nat.beq d d = true := by simp
    simp only [this, cond_true, Option.some.injEq] at ht
    subst ht
    have : d < a.tmps.size := by rw [h.size]; exact hd
    simp [Act.put, this]
  · have : Nat.beq d t = false := by
      cases hb : Nat.beq d t
      · rfl
      · exact absurd (Nat.eq_of_beq_eq_true hb) e
    simp only [this, cond_false] at ht
    have := h.slot t u ht
    simp [Act.put, Array.getElem?_setIfInBounds_ne e, this]

theorem Ok.none {N : Nat} {φ : Fr} {a : Act} (h : Ok N φ a) (v : Value) : Ok N φ (a.put none v) := h

/-- all that 'ψ' tells is told by 'φ' -/
def Fr.sub : Fr → Fr → Prop
  | [], _ => True
  | p :: r, φ => φ.get p.1 = some p.2 ∧ Fr.sub r φ

theorem Fr.get_of_sub {ψ φ : Fr} (h : Fr.sub ψ φ) {t : Nat} {v : Value} (ht : ψ.get t = some v) : φ.get t = some v := by
  induction ψ with
  | nil => simp [Fr.get] at ht
  | cons p r ih =>
    obtain ⟨h1, h2⟩ := h
    simp only [Fr.get] at ht
    cases hb : Nat.beq p.1 t with
    | true =>
      rw [hb] at ht
      simp only [cond_true, Option.some.injEq] at ht
      have e := Nat.eq_of_beq_eq_true hb
      rw [← e, ← ht]; exact h1
    | false =>
      rw [hb] at ht
      exact ih h2 ht

theorem Ok.sub {N : Nat} {φ ψ : Fr} {a : Act} (h : Ok N φ a) (hs : Fr.sub ψ φ) : Ok N ψ a :=
  ⟨h.defers, h.size, fun _ _ ht => h.slot _ _ (Fr.get_of_sub hs ht)⟩

/-- a post on told frames and heaps, as one on frames and worlds -/
def Lift (w0 : World) (N : Nat) (Q : Exit → Fr → Heap → Prop) : Exit → Act → World → Prop :=
  fun e a w => Same w0 w ∧ ∃ φ, Ok N φ a ∧ Q e φ w.heap

/-- from every frame that is as told, and every world with this heap -/
def W (P : Program) (N : Nat) (c : Code) (Q : Exit → Fr → Heap → Prop) (φ : Fr) (h : Heap) : Prop :=
  ∀ w0 a w, Same w0 w → w.heap = h → Ok N φ a → c.wp P (Lift w0 N Q) a w

/-- what follows a normal end -/
def thn (P : Program) (N : Nat) (y : Code) (Q : Exit → Fr → Heap → Prop) (e : Exit) (φ : Fr) (h : Heap) : Prop :=
  match e with
  | .normal => W P N y Q φ h
  | e => Q e φ h

section
variable {P : Program} {N : Nat} {Q : Exit → Fr → Heap → Prop} {φ : Fr} {h : Heap}

theorem W.sub {c : Code} {ψ : Fr} (hs : Fr.sub ψ φ) (H : W P N c Q ψ h) : W P N c Q φ h :=
  fun w0 a w hs' hw ho => H w0 a w hs' hw (ho.sub hs)

theorem W.mono {c : Code} {Q' : Exit → Fr → Heap → Prop} (H : W P N c Q φ h) (hq : ∀ e φ h, Q e φ h → Q' e φ h) : W P N c Q' φ h :=
  fun w0 a w hs hw ho => Code.wp_mono (fun _ _ _ ⟨h1, φ', h2, h3⟩ => ⟨h1, φ', h2, hq _ _ _ h3⟩) (H w0 a w hs hw ho)

theorem W.skip (H : Q .normal φ h) : W P N .skip Q φ h :=
  fun _ _ _ hs hw ho => wp_skip ⟨hs, φ, ho, hw ▸ H⟩
theorem W.exit {id : Nat} (H : Q (.exit id) φ h) : W P N (.exit id) Q φ h :=
  fun _ _ _ hs hw ho => wp_exit ⟨hs, φ, ho, hw ▸ H⟩
theorem W.ret (H : Q .ret φ h) : W P N .ret Q φ h :=
  fun _ _ _ hs hw ho => wp_ret ⟨hs, φ, ho, hw ▸ H⟩
theorem W.label {l : Nat} (H : Q .normal φ h) : W P N (.label l) Q φ h :=
  fun _ _ _ hs hw ho => wp_label ⟨hs, φ, ho, hw ▸ H⟩

theorem W.seq {x y : Code} (H : W P N x (thn P N y Q) φ h) : W P N (.seq x y) Q φ h := by
  intro w0 a w hs hw ho
  refine wp_seq (Code.wp_mono ?_ (H w0 a w hs hw ho))
  rintro e a' w' ⟨h1, φ', h2, h3⟩
  cases e with
  | normal => exact h3 w0 a' w' h1 rfl h2
  | exit id => exact ⟨h1, φ', h2, h3⟩
  | goto l => exact ⟨h1, φ', h2, h3⟩
  | ret => exact ⟨h1, φ', h2, h3⟩
  | panic c => exact ⟨h1, φ', h2, h3⟩
  | outgrown => exact ⟨h1, φ', h2, h3⟩

theorem W.cond {c : Operand} {x y : Code} {t : Bool} (hc : φ.ev c = some (.bool t)) (ht : t = true → W P N x Q φ h) (hf : t = false → W P N y Q φ h) :
    W P N (.cond c x y) Q φ h := by
  intro w0 a w hs hw ho
  exact wp_cond_split (ho.eval hc) (fun e => ht e w0 a w hs hw ho) (fun e => hf e w0 a w hs hw ho)

theorem W.condT {c : Operand} {x y : Code} {t : Bool} (hc : φ.ev c = some (.bool t)) (e : t = true) (H : W P N x Q φ h) : W P N (.cond c x y) Q φ h :=
  W.cond hc (fun _ => H) (fun e' => by rw [e] at e'; cases e')
theorem W.condF {c : Operand} {x y : Code} {t : Bool} (hc : φ.ev c = some (.bool t)) (e : t = false) (H : W P N y Q φ h) : W P N (.cond c x y) Q φ h :=
  W.cond hc (fun e' => by rw [e] at e'; cases e') (fun _ => H)

/-- a block's end -/
def blk (id : Nat) (Q : Exit → Fr → Heap → Prop) (e : Exit) (φ : Fr) (h : Heap) : Prop :=
  match e with
  | .exit id' => bif Nat.beq id' id then Q .normal φ h else Q (.exit id') φ h
  | e => Q e φ h

theorem W.block {id : Nat} {c : Code} (H : W P N c (blk id Q) φ h) : W P N (.block id c) Q φ h := by
  intro w0 a w hs hw ho
  refine wp_block (Code.wp_mono ?_ (H w0 a w hs hw ho))
  rintro e a' w' ⟨h1, φ', h2, h3⟩
  cases e with
  | normal => exact ⟨h1, φ', h2, h3⟩
  | exit id' =>
    simp only [Exit.inBlock]
    simp only [blk] at h3
    cases hb : Nat.beq id' id with
    | true =>
      rw [hb] at h3
      rw [if_pos (Nat.eq_of_beq_eq_true hb)]
      exact ⟨h1, φ', h2, h3⟩
    | false =>
      rw [hb] at h3
      rw [if_neg (fun e => by rw [e] at hb; simp at hb)]
      exact ⟨h1, φ', h2, h3⟩
  | goto l => exact ⟨h1, φ', h2, h3⟩
  | ret => exact ⟨h1, φ', h2, h3⟩
  | panic c => exact ⟨h1, φ', h2, h3⟩
  | outgrown => exact ⟨h1, φ', h2, h3⟩

/-- some rounds of a loop -/
def WR (P : Program) (N : Nat) (c : Code) (Q : Exit → Fr → Heap → Prop) : Nat → Fr → Heap → Prop
  | 0, _, _ => False
  | n + 1, φ, h => W P N c (fun e φ h => match e with | .normal => WR P N c Q n φ h | e => Q e φ h) φ h

theorem rounds_of_WR {c : Code} (n : Nat) : ∀ φ h, WR P N c Q n φ h → ∀ w0 a w, Same w0 w → w.heap = h → Ok N φ a → Code.rounds P c (Lift w0 N Q) n a w := by
  induction n with
  | zero => intro φ h H; exact H.elim
  | succ n ih =>
    intro φ h H w0 a w hs hw ho
    rw [rounds_succ]
    refine Code.wp_mono ?_ (H w0 a w hs hw ho)
    rintro e a' w' ⟨h1, φ', h2, h3⟩
    cases e with
    | normal => exact ih φ' _ h3 w0 a' w' h1 rfl h2
    | exit id => exact ⟨h1, φ', h2, h3⟩
    | goto l => exact ⟨h1, φ', h2, h3⟩
    | ret => exact ⟨h1, φ', h2, h3⟩
    | panic c => exact ⟨h1, φ', h2, h3⟩
    | outgrown => exact ⟨h1, φ', h2, h3⟩

theorem W.loop {c : Code} (n : Nat) (H : WR P N c Q n φ h) : W P N (.loop c) Q φ h :=
  fun w0 a w hs hw ho => wp_loop_rounds n (rounds_of_WR n φ h H w0 a w hs hw ho)

theorem WR.succ {c : Code} {n : Nat} (H : W P N c (fun e φ h => match e with | .normal => WR P N c Q n φ h | e => Q e φ h) φ h) : WR P N c Q (n + 1) φ h := H

/-! ### regions -/

/-- operations in order -/
def RL (P : Program) (N : Nat) (ops : Array Oper) (Q : Exit → Fr → Heap → Prop) (l : List Oper) (φ : Fr) (h : Heap) : Prop :=
  ∀ w0 a w, Same w0 w → w.heap = h → Ok N φ a → wpList P ops (Lift w0 N Q) l a w

theorem W.region {id : Nat} {l : List Oper} (H : RL P N l.toArray Q l φ h) : W P N (.region id l.toArray false) Q φ h :=
  fun w0 a w hs hw ho => wp_region_lit (H w0 a w hs hw ho)

theorem RL.nil {ops : Array Oper} (H : Q .normal φ h) : RL P N ops Q [] φ h :=
  fun _ _ _ hs hw ho => wpList_nil ⟨hs, φ, ho, hw ▸ H⟩

theorem RL.sub {ops : Array Oper} {l : List Oper} {ψ : Fr} (hs : Fr.sub ψ φ) (H : RL P N ops Q l ψ h) : RL P N ops Q l φ h :=
  fun w0 a w hs' hw ho => H w0 a w hs' hw (ho.sub hs)

/-- what one operation gives: a value, in a heap -/
def OpV (P : Program) (φ : Fr) (o : Oper) (h : Heap) (K : Value → Heap → Prop) : Prop :=
  ∀ (a : Act) (w : World), (∀ x v, φ.ev x = some v → a.eval x = v) → w.heap = h →
    (∃ v w', (execOp a.eval o).run P w = .ok (.value v) w' ∧ Same w w' ∧ K v w'.heap) ∨
    (∃ w', (execOp a.eval o).run P w = .ok .skip w' ∧ Same w w' ∧ K undef w'.heap) ∨
    (∃ f args w', (execOp a.eval o).run P w = .ok (.enter f args) w' ∧ Same w w' ∧
      Calls P f args w' fun e w'' => ∃ v, e = .returned v ∧ Same w' w'' ∧ K v w''.heap)

theorem OpV.mono {o : Oper} {K K' : Value → Heap → Prop} (H : OpV P φ o h K) (hk : ∀ v h, K v h → K' v h) : OpV P φ o h K' := by
  intro a w hev hw
  rcases H a w hev hw with ⟨v, w', h1, h2, h3⟩ | ⟨w', h1, h2, h3⟩ | ⟨f, args, w', h1, h2, h3⟩
  · exact .inl ⟨v, w', h1, h2, hk _ _ h3⟩
  · exact .inr (.inl ⟨w', h1, h2, hk _ _ h3⟩)
  · exact .inr (.inr ⟨f, args, w', h1, h2, h3.mono fun _ _ ⟨v, e, s, k⟩ => ⟨v, e, s, hk _ _ k⟩⟩)

theorem OpV.wp {o : Oper} {K : Value → Heap → Prop} (H : OpV P φ o h K) {a : Act} {w w0 : World} (ho : Ok N φ a) (hw : w.heap = h) (hs : Same w0 w)
    {next : Act → World → Prop} {Q' : Exit → Act → World → Prop} (hn : ∀ v w', Same w0 w' → K v w'.heap → next (a.put o.dst v) w') : o.wp P a w next Q' := by
  unfold Oper.wp
  rcases H a w (fun x v => ho.eval) hw with ⟨v, w', h1, h2, h3⟩ | ⟨w', h1, h2, h3⟩ | ⟨f, args, w', h1, h2, h3⟩
  · rw [h1]; exact hn v w' (hs.trans h2) h3
  · rw [h1]; exact hn undef w' (hs.trans h2) h3
  · rw [h1]
    refine Calls.mono h3 ?_
    rintro e w'' ⟨v, rfl, s, k⟩
    exact hn v w'' ((hs.trans h2).trans s) k

/-- one operation that has no guard, and a destination -/
theorem RL.op {ops : Array Oper} {d : Nat} {op : Op} {ty : TypeId} {ps : String} {af : Array Edge} {l : List Oper} (K : Value → Heap → Prop)
    (hd : d < N) (H : OpV P φ { dst := some d, op := op, type := ty, pos := ps, after := af, guard := none } h K)
    (hn : ∀ v h', K v h' → RL P N ops Q l ((d, v) :: φ) h') :
    RL P N ops Q ({ dst := some d, op := op, type := ty, pos := ps, after := af, guard := none } :: l) φ h := by
  intro w0 a w hs hw ho
  refine wpList_plain rfl fun K' hK' => H.wp ho hw hs fun v w' hs' hk => hK' _ _ ?_
  exact hn v _ hk w0 _ w' hs' rfl (ho.put hd v)

/-- one without a destination (a store) -/
theorem RL.op0 {ops : Array Oper} {op : Op} {ty : TypeId} {ps : String} {af : Array Edge} {l : List Oper} (K : Value → Heap → Prop)
    (H : OpV P φ { dst := none, op := op, type := ty, pos := ps, after := af, guard := none } h K)
    (hn : ∀ v h', K v h' → RL P N ops Q l φ h') :
    RL P N ops Q ({ dst := none, op := op, type := ty, pos := ps, after := af, guard := none } :: l) φ h := by
  intro w0 a w hs hw ho
  refine wpList_plain rfl fun K' hK' => H.wp ho hw hs fun v w' hs' hk => hK' _ _ ?_
  exact hn v _ hk w0 _ w' hs' rfl ho
end
end Go.H
