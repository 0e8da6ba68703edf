/- The judgement on code once more, where what is the same of two worlds tells that draws only grow: for the sort's comparison. -/
import Derived.Test.YtjlnfficehomhaaGreatDoorLibB
set_option linter.unusedVariables false
namespace Go.HD
open Go Go.H
structure Same (w w' : World) : Prop where
  tape : w'.tape = w.tape
  os : w'.os = w.os
  output : w'.output = w.output
  dr : w.drawn ≤ w'.drawn
theorem Same.refl (w : World) : Same w w := ⟨rfl, rfl, rfl, Nat.le_refl _⟩
theorem Same.trans {a b c : World} (h : Same a b) (k : Same b c) : Same a c :=
  ⟨k.tape.trans h.tape, k.os.trans h.os, k.output.trans h.output, Nat.le_trans h.dr k.dr⟩
theorem Same.drawn (w : World) (n : Nat) : Same w { w with drawn := w.drawn + n } := ⟨rfl, rfl, rfl, Nat.le_add_right _ _⟩
/-- a post on told frames and heaps, as one on frames and worlds -/
def Lift (w0 : World) (N : Nat) (Q : Exit → Fr → Heap → Prop) : Exit → Act → World → Prop :=
  fun e a w => Same w0 w ∧ ∃ φ, Ok N φ a ∧ Q e φ w.heap
/-- from every frame that is as told, and every world with this heap -/
def W (P : Program) (N : Nat) (c : Code) (Q : Exit → Fr → Heap → Prop) (φ : Fr) (h : Heap) : Prop :=
  ∀ w0 a w, Same w0 w → w.heap = h → Ok N φ a → c.wp P (Lift w0 N Q) a w
/-- what follows a normal end -/
def thn (P : Program) (N : Nat) (y : Code) (Q : Exit → Fr → Heap → Prop) (e : Exit) (φ : Fr) (h : Heap) : Prop :=
  match e with
  | .normal => W P N y Q φ h
  | e => Q e φ h
section
variable {P : Program} {N : Nat} {Q : Exit → Fr → Heap → Prop} {φ : Fr} {h : Heap}
theorem W.sub {c : Code} {ψ : Fr} (hs : Fr.sub ψ φ) (H : W P N c Q ψ h) : W P N c Q φ h :=
  fun w0 a w hs' hw ho => H w0 a w hs' hw (ho.sub hs)
theorem W.mono {c : Code} {Q' : Exit → Fr → Heap → Prop} (H : W P N c Q φ h) (hq : ∀ e φ h, Q e φ h → Q' e φ h) : W P N c Q' φ h :=
  fun w0 a w hs hw ho => Code.wp_mono (fun _ _ _ ⟨h1, φ', h2, h3⟩ => ⟨h1, φ', h2, hq _ _ _ h3⟩) (H w0 a w hs hw ho)
theorem W.skip (H : Q .normal φ h) : W P N .skip Q φ h :=
  fun _ _ _ hs hw ho => wp_skip ⟨hs, φ, ho, hw ▸ H⟩
theorem W.exit {id : Nat} (H : Q (.exit id) φ h) : W P N (.exit id) Q φ h :=
  fun _ _ _ hs hw ho => wp_exit ⟨hs, φ, ho, hw ▸ H⟩
theorem W.ret (H : Q .ret φ h) : W P N .ret Q φ h :=
  fun _ _ _ hs hw ho => wp_ret ⟨hs, φ, ho, hw ▸ H⟩
theorem W.seq {x y : Code} (H : W P N x (thn P N y Q) φ h) : W P N (.seq x y) Q φ h := by
  intro w0 a w hs hw ho
  refine wp_seq (Code.wp_mono ?_ (H w0 a w hs hw ho))
  rintro e a' w' ⟨h1, φ', h2, h3⟩
  cases e with
  | normal => exact h3 w0 a' w' h1 rfl h2
  | exit id => exact ⟨h1, φ', h2, h3⟩
  | goto l => exact ⟨h1, φ', h2, h3⟩
  | ret => exact ⟨h1, φ', h2, h3⟩
  | panic c => exact ⟨h1, φ', h2, h3⟩
  | outgrown => exact ⟨h1, φ', h2, h3⟩
theorem W.cond {c : Operand} {x y : Code} {t : Bool} (hc : φ.ev c = some (.bool t)) (ht : t = true → W P N x Q φ h) (hf : t = false → W P N y Q φ h) :
    W P N (.cond c x y) Q φ h := by
  intro w0 a w hs hw ho
  exact wp_cond_split (ho.eval hc) (fun e => ht e w0 a w hs hw ho) (fun e => hf e w0 a w hs hw ho)
theorem W.condT {c : Operand} {x y : Code} {t : Bool} (hc : φ.ev c = some (.bool t)) (e : t = true) (H : W P N x Q φ h) : W P N (.cond c x y) Q φ h :=
  W.cond hc (fun _ => H) (fun e' => by rw [e] at e'; cases e')
theorem W.condF {c : Operand} {x y : Code} {t : Bool} (hc : φ.ev c = some (.bool t)) (e : t = false) (H : W P N y Q φ h) : W P N (.cond c x y) Q φ h :=
  W.cond hc (fun e' => by rw [e] at e'; cases e') (fun _ => H)
theorem W.block {id : Nat} {c : Code} (H : W P N c (blk id Q) φ h) : W P N (.block id c) Q φ h := by
  intro w0 a w hs hw ho
  refine wp_block (Code.wp_mono ?_ (H w0 a w hs hw ho))
  rintro e a' w' ⟨h1, φ', h2, h3⟩
  cases e with
  | normal => exact ⟨h1, φ', h2, h3⟩
  | exit id' =>
    simp only [Exit.inBlock]
    simp only [blk] at h3
    cases hb : Nat.beq id' id with
    | true =>
      rw [hb] at h3
      rw [if_pos (Nat.eq_of_beq_eq_true hb)]
      exact ⟨h1, φ', h2, h3⟩
    | false =>
      rw [hb] at h3
      rw [if_neg (fun e => by rw [e] at hb; simp at hb)]
      exact ⟨h1, φ', h2, h3⟩
  | goto l => exact ⟨h1, φ', h2, h3⟩
  | ret => exact ⟨h1, φ', h2, h3⟩
  | panic c => exact ⟨h1, φ', h2, h3⟩
  | outgrown => exact ⟨h1, φ', h2, h3⟩
/-- some rounds of a loop -/
def WR (P : Program) (N : Nat) (c : Code) (Q : Exit → Fr → Heap → Prop) : Nat → Fr → Heap → Prop
  | 0, _, _ => False
  | n + 1, φ, h => W P N c (fun e φ h => match e with | .normal => WR P N c Q n φ h | e => Q e φ h) φ h
theorem rounds_of_WR {c : Code} (n : Nat) : ∀ φ h, WR P N c Q n φ h → ∀ w0 a w, Same w0 w → w.heap = h → Ok N φ a → Code.rounds P c (Lift w0 N Q) n a w := by
  induction n with
  | zero => intro φ h H; exact H.elim
  | succ n ih =>
    intro φ h H w0 a w hs hw ho
    rw [rounds_succ]
    refine Code.wp_mono ?_ (H w0 a w hs hw ho)
    rintro e a' w' ⟨h1, φ', h2, h3⟩
    cases e with
    | normal => exact ih φ' _ h3 w0 a' w' h1 rfl h2
    | exit id => exact ⟨h1, φ', h2, h3⟩
    | goto l => exact ⟨h1, φ', h2, h3⟩
    | ret => exact ⟨h1, φ', h2, h3⟩
    | panic c => exact ⟨h1, φ', h2, h3⟩
    | outgrown => exact ⟨h1, φ', h2, h3⟩
theorem W.loop {c : Code} (n : Nat) (H : WR P N c Q n φ h) : W P N (.loop c) Q φ h :=
  fun w0 a w hs hw ho => wp_loop_rounds n (rounds_of_WR n φ h H w0 a w hs hw ho)
theorem WR.succ {c : Code} {n : Nat} (H : W P N c (fun e φ h => match e with | .normal => WR P N c Q n φ h | e => Q e φ h) φ h) : WR P N c Q (n + 1) φ h := H
/-! ### regions -/

/-- operations in order -/
def RL (P : Program) (N : Nat) (ops : Array Oper) (Q : Exit → Fr → Heap → Prop) (l : List Oper) (φ : Fr) (h : Heap) : Prop :=
  ∀ w0 a w, Same w0 w → w.heap = h → Ok N φ a → wpList P ops (Lift w0 N Q) l a w
theorem W.region {id : Nat} {l : List Oper} (H : RL P N l.toArray Q l φ h) : W P N (.region id l.toArray false) Q φ h :=
  fun w0 a w hs hw ho => wp_region_lit (H w0 a w hs hw ho)
theorem RL.nil {ops : Array Oper} (H : Q .normal φ h) : RL P N ops Q [] φ h :=
  fun _ _ _ hs hw ho => wpList_nil ⟨hs, φ, ho, hw ▸ H⟩
theorem RL.sub {ops : Array Oper} {l : List Oper} {ψ : Fr} (hs : Fr.sub ψ φ) (H : RL P N ops Q l ψ h) : RL P N ops Q l φ h :=
  fun w0 a w hs' hw ho => H w0 a w hs' hw (ho.sub hs)
/-- what one operation gives: a value, in a heap -/
def OpV (P : Program) (φ : Fr) (o : Oper) (h : Heap) (K : Value → Heap → Prop) : Prop :=
  ∀ (a : Act) (w : World), (∀ x v, φ.ev x = some v → a.eval x = v) → w.heap = h →
    (∃ v w', (execOp a.eval o).run P w = .ok (.value v) w' ∧ Same w w' ∧ K v w'.heap) ∨
    (∃ w', (execOp a.eval o).run P w = .ok .skip w' ∧ Same w w' ∧ K undef w'.heap) ∨
    (∃ f args w', (execOp a.eval o).run P w = .ok (.enter f args) w' ∧ Same w w' ∧
      Calls P f args w' fun e w'' => ∃ v, e = .returned v ∧ Same w' w'' ∧ K v w''.heap)
theorem OpV.mono {o : Oper} {K K' : Value → Heap → Prop} (H : OpV P φ o h K) (hk : ∀ v h, K v h → K' v h) : OpV P φ o h K' := by
  intro a w hev hw
  rcases H a w hev hw with ⟨v, w', h1, h2, h3⟩ | ⟨w', h1, h2, h3⟩ | ⟨f, args, w', h1, h2, h3⟩
  · exact .inl ⟨v, w', h1, h2, hk _ _ h3⟩
  · exact .inr (.inl ⟨w', h1, h2, hk _ _ h3⟩)
  · exact .inr (.inr ⟨f, args, w', h1, h2, h3.mono fun _ _ ⟨v, e, s, k⟩ => ⟨v, e, s, hk _ _ k⟩⟩)
theorem OpV.wp {o : Oper} {K : Value → Heap → Prop} (H : OpV P φ o h K) {a : Act} {w w0 : World} (ho : Ok N φ a) (hw : w.heap = h) (hs : Same w0 w)
    {next : Act → World → Prop} {Q' : Exit → Act → World → Prop} (hn : ∀ v w', Same w0 w' → K v w'.heap → next (a.put o.dst v) w') : o.wp P a w next Q' := by
  unfold Oper.wp
  rcases H a w (fun x v => ho.eval) hw with ⟨v, w', h1, h2, h3⟩ | ⟨w', h1, h2, h3⟩ | ⟨f, args, w', h1, h2, h3⟩
  · rw [h1]; exact hn v w' (hs.trans h2) h3
  · rw [h1]; exact hn undef w' (hs.trans h2) h3
  · rw [h1]
    refine Calls.mono h3 ?_
    rintro e w'' ⟨v, rfl, s, k⟩
    exact hn v w'' ((hs.trans h2).trans s) k
/-- one operation that has no guard, and a destination -/
theorem RL.op {ops : Array Oper} {d : Nat} {op : Op} {ty : TypeId} {ps : String} {af : Array Edge} {l : List Oper} (K : Value → Heap → Prop)
    (hd : d < N) (H : OpV P φ { dst := some d, op := op, type := ty, pos := ps, after := af, guard := none } h K)
    (hn : ∀ v h', K v h' → RL P N ops Q l ((d, v) :: φ) h') :
    RL P N ops Q ({ dst := some d, op := op, type := ty, pos := ps, after := af, guard := none } :: l) φ h := by
  intro w0 a w hs hw ho
  refine wpList_plain rfl fun K' hK' => H.wp ho hw hs fun v w' hs' hk => hK' _ _ ?_
  exact hn v _ hk w0 _ w' hs' rfl (ho.put hd v)
end
section
variable {P : Program} {N : Nat} {Q : Exit → Fr → Heap → Prop} {ops : List Oper}
end
variable {P : Program} {φ : Fr} {h : Heap} {o : Oper}
theorem opv_move {x : Operand} {v : Value} (ho : o.op = .move x) (hx : φ.ev x = some v) : OpV P φ o h (Det v h) := by
  intro a w hev hw
  exact .inl ⟨v, w, by simp [execOp, ho, hev x v hx], Same.refl w, rfl, hw.symm⟩
theorem opv_assign {x : Operand} {v : Value} (ho : o.op = .assign x) (hx : φ.ev x = some v) : OpV P φ o h (Det v h) := by
  intro a w hev hw
  exact .inl ⟨v, w, by simp [execOp, ho, hev x v hx], Same.refl w, rfl, hw.symm⟩
theorem opv_int {op : BinOp} {t t' : TypeId} {x y : Operand} {k : IntKind} {m n : Int} (ho : o.op = .binOp op t x y t') (hop : op = .add ∨ op = .sub ∨ op = .mul) (hx : φ.ev x = some (.int k m)) (hy : φ.ev y = some (.int k n)) :
    OpV P φ o h (Det (.int k (k.wrap (arith op m n))) h) := by
  intro a w hev hw
  refine .inl ⟨_, w, ?_, Same.refl w, rfl, hw.symm⟩
  rcases hop with rfl | rfl | rfl <;> simp [execOp, ho, hev x _ hx, hev y _ hy, eqGuard, binOp, Op.intArith, arith]
theorem opv_add {t t' : TypeId} {x y : Operand} {k : IntKind} {m n : Int} (ho : o.op = .binOp .add t x y t') (hx : φ.ev x = some (.int k m)) (hy : φ.ev y = some (.int k n)) : OpV P φ o h (Det (.int k (k.wrap (m + n))) h) := opv_int ho (.inl rfl) hx hy
theorem opv_icmp {op : BinOp} {t t' : TypeId} {x y : Operand} {k : IntKind} {m n : Int} (ho : o.op = .binOp op t x y t') (hop : (match op with | .eql | .neq | .lss | .leq | .gtr | .geq => true | _ => false) = true) (hx : φ.ev x = some (.int k m)) (hy : φ.ev y = some (.int k n)) :
    OpV P φ o h (Det (.bool (icmp op m n)) h) := by
  intro a w hev hw
  refine .inl ⟨_, w, ?_, Same.refl w, rfl, hw.symm⟩
  cases op <;> simp at hop <;> simp [execOp, ho, hev x _ hx, hev y _ hy, eqGuard, binOp, Op.intCmp, icmp]
def CallsH (P : Program) (f : FuncId) (args : Array Value) (h : Heap) (R : Value → Heap → Prop) : Prop :=
  ∀ w : World, w.heap = h → Calls P f args w fun e w' => ∃ v, e = .returned v ∧ Same w w' ∧ R v w'.heap
theorem CallsH.mono {P : Program} {f : FuncId} {args : Array Value} {h : Heap} {R R' : Value → Heap → Prop} (H : CallsH P f args h R) (hr : ∀ v h', R v h' → R' v h') : CallsH P f args h R' :=
  fun w hw => (H w hw).mono fun _ _ ⟨v, e, s, r⟩ => ⟨v, e, s, hr _ _ r⟩
theorem callsH_of_W0 {P : Program} {f : FuncId} {fn : Func} {c : Code} {l : List Value} {h : Heap} {R : Value → Heap → Prop} (N : Nat)
    (hf : P.funcs[f]? = some fn) (hb : fn.body = some c) (hn : fn.ntmps = N) (hl : Nat.ble l.length N = true) (H : W P N c (Rt P N fn R) (argFr 0 l) h) : CallsH P f l.toArray h R := by
  intro w hw
  subst hn
  have hl' := Nat.le_of_ble_eq_true hl
  refine calls_of_wp hf hb (Code.wp_mono ?_ (H w _ w (Same.refl w) hw ⟨rfl, by simp; omega, fun t v ht => ?_⟩))
  · rintro e a w' ⟨hs, φ, ho, hq⟩
    cases e with
    | normal => obtain ⟨v, h1, h2⟩ := hq; exact ⟨ho.defers, v, h1 a w' ho rfl, v, rfl, hs, h2⟩
    | ret => obtain ⟨v, h1, h2⟩ := hq; exact ⟨ho.defers, v, h1 a w' ho rfl, v, rfl, hs, h2⟩
    | exit id => exact hq.elim
    | goto l => exact hq.elim
    | panic c => exact hq.elim
    | outgrown => exact hq.elim
  · obtain ⟨_, h2⟩ := argFr_get 0 l t v ht
    have hlt := (List.getElem?_eq_some_iff.1 h2).1
    simp only [Nat.sub_zero] at h2 hlt
    rw [Array.getElem?_append_left (by simpa using hlt)]
    simpa using h2
theorem callsH_of_W {P : Program} {f : FuncId} {fn : Func} {c : Code} {l cap : List Value} {h : Heap} {R : Value → Heap → Prop} (N : Nat)
    (hf : P.funcs[f]? = some fn) (hb : fn.body = some c) (hn : fn.ntmps = N) (hl : Nat.ble (l ++ cap).length N = true) (H : W P N c (Rt P N fn R) (argFr 0 (l ++ cap)) h) : CallsH P f (l.toArray ++ cap.toArray) h R := by
  have := callsH_of_W0 N hf hb hn hl H
  simpa using this
section
variable {P : Program} {N : Nat} {φ : Fr} {h : Heap} {fn : Func} {R : Value → Heap → Prop}
/-- a call of a function of the text -/
theorem opv_call {o : Oper} {c : Operand} {xs : List Operand} {ts : Array TypeId} {vs : List Value} {f : FuncId} {cap : List Value} {fn : Func} {b : Code} {R : Value → Heap → Prop}
    (H : CallsH P f (vs.toArray ++ cap.toArray) h R) (ho : o.op = .call { callee := .value c, args := xs.toArray, argTypes := ts }) (hc : φ.ev c = some (.func (.func f) #[] cap.toArray)) (hx : φ.evs xs vs)
    (hf : P.funcs[f]? = some fn) (hn : (fn.name == "runtime.NumGoroutine") = false) (hb : fn.body = some b) : OpV P φ o h R := by
  intro a w hev hw
  refine .inr (.inr ⟨f, vs.toArray ++ cap.toArray, w, ?_, Same.refl w, H w hw⟩)
  have hm : xs.map a.eval = vs := Fr.evs_map hev hx
  have hm' : xs.toArray.map a.eval = vs.toArray := by simp [hm]
  have hn' : ¬ fn.name = "runtime.NumGoroutine" := by simpa using hn
  simp [execOp, ho, resolve, hev c _ hc, hm', Deferred.ofValue, invoke, callFunc, hf, hn', hb]
theorem RL.opD {ops : Array Oper} {Q : Exit → Fr → Heap → Prop} {d : Nat} {op : Op} {ty : TypeId} {ps : String} {af : Array Edge} {l : List Oper} {u : Value} (hd : d < N)
    (H : OpV P φ { dst := some d, op := op, type := ty, pos := ps, after := af, guard := none } h (Det u h)) (hn : RL P N ops Q l ((d, u) :: φ) h) :
    RL P N ops Q ({ dst := some d, op := op, type := ty, pos := ps, after := af, guard := none } :: l) φ h :=
  RL.op _ hd H fun _ _ hv => hv.1 ▸ hv.2 ▸ hn
theorem W.cut {c : Code} {Q : Exit → Fr → Heap → Prop} (R : Fr → Heap → Prop) (H1 : W P N c (only Q R) φ h) (H2 : ∀ φ' h', R φ' h' → Q .normal φ' h') : W P N c Q φ h :=
  H1.mono fun e φ' h' hq => by cases e <;> first | exact H2 φ' h' hq | exact hq
section
variable {Q : Exit → Fr → Heap → Prop} {Rr : Fr → Heap → Prop} {y : Code} {id i : Nat}
theorem thnN (H : W P N y Q φ h) : thn P N y Q .normal φ h := H
theorem thnX (H : Q (.exit i) φ h) : thn P N y Q (.exit i) φ h := H
theorem thnR (H : Q .ret φ h) : thn P N y Q .ret φ h := H
theorem WR_of {S E : Type} {step : S → Option (S ⊕ E)} {c : Code} {yv : E} (inv : S → Fr → Heap → Prop)
    (round : ∀ s φ h o, inv s φ h → step s = some o → (∀ e, o = .inr e → e = yv) → W P N c (rnd inv o Q) φ h) :
    ∀ n s φ h, Go.H.runN step n s = some yv → inv s φ h → WR P N c Q n φ h
  | 0, _, _, _, hn, _ => by simp [Go.H.runN] at hn
  | n + 1, s, φ, h, hn, hi => by
    rw [Go.H.runN] at hn
    obtain ⟨o, ho, hr⟩ := Option.bind_eq_some_iff.1 hn
    refine WR.succ (W.mono (round s φ h o hi ho fun e he => ?_) ?_)
    · subst he; exact Option.some.inj hr
    · intro e φ' h' hq
      cases e with
      | normal =>
        obtain ⟨s', rfl, hi'⟩ := hq
        exact WR_of inv round n s' φ' h' hr hi'
      | exit _ => exact hq
      | goto _ => exact hq
      | ret => exact hq
      | panic _ => exact hq
      | outgrown => exact hq
theorem W.loopS {S E : Type} {step : S → Option (S ⊕ E)} {c : Code} {yv : E} {s : S} (inv : S → Fr → Heap → Prop) (hy : loopF step s = some yv) (h0 : inv s φ h)
    (round : ∀ s φ h o, inv s φ h → step s = some o → (∀ e, o = .inr e → e = yv) → W P N c (rnd inv o Q) φ h) : W P N (.loop c) Q φ h := by
  obtain ⟨n, hn⟩ := loopF_run hy
  exact W.loop n (WR_of inv round n s φ h hn h0)
end
end
section
variable {α : Type} {K : Kd α}
end
section
variable {α : Type} {K : Kd α} {h h' : Heap} {v : Value} {l : List α}
end
section
variable {P : Program} {φ : Fr} {h : Heap} {o : Oper} {α : Type} {K : Kd α} {e : Nat} {v : Value} {l : List α}
theorem opv_len {t E : TypeId} {x : Operand} (ho : o.op = .call { callee := .builtin .len, args := #[x], argTypes := #[t] }) (ht : P.underlying t = some (.slice E)) (hx : φ.ev x = some v) (H : SL K e h v l) : OpV P φ o h (Det (.int .i64 l.length) h) := by
  intro a w hev hw
  obtain ⟨p, c, xs, rfl, _, _⟩ := H
  refine .inl ⟨_, w, ?_, Same.refl w, rfl, hw.symm⟩
  simp [execOp, ho, resolve, hev x _ hx, invoke, builtin, Builtin.len_, run_underlying ht, goInt]
theorem opv_index {t E : TypeId} {x i : Operand} {k : IntKind} {n : Int} {y : α} (ho : o.op = .indexAddr t x i) (ht : P.underlying t = some (.slice E)) (hs : (P.info? E).map (·.size) = some K.size) (hx : φ.ev x = some v) (hi : φ.ev i = some (.int k n)) (H : SL K e h v l) (hn : idx l n = some y) :
    OpV P φ o h (fun u h' => PtI K.size u v n.toNat ∧ h = h') := by
  intro a w hev hw
  obtain ⟨p, c, xs, rfl, hr, hc⟩ := H
  obtain ⟨h0, h1, _⟩ := idx_some hn
  rcases hc with rfl | ⟨q, rfl, hq, hb, hcell⟩
  · simp at h1
  obtain ⟨info, hinfo, hsz⟩ := Option.map_eq_some_iff.1 hs
  refine .inl ⟨.pointer (some (q.add (n.toNat * K.size))), w, ?_, Same.refl w, ⟨q, l.length, c, rfl, rfl⟩, hw.symm⟩
  have h1' : n < (l.length : Int) := by omega
  simp [execOp, ho, hev x _ hx, hev i _ hi, Instr.indexAt, asIntOf, run_underlying ht, h0, h1', sizeOf, typeInfo, hinfo, hsz]
theorem opv_load {t : TypeId} {x : Operand} {a : Addr} {u : Value} (ho : o.op = .load t x) (ht : oneCellT P t = true) (hx : φ.ev x = some (.pointer (some a))) (hc : (hw h).cell? a = some u) : OpV P φ o h (Det u h) := by
  intro a' w hev hw'
  refine .inl ⟨u, w, ?_, Same.refl w, rfl, hw'.symm⟩
  have := run_loadVar_one (P := P) ht (w := w) (a := a) (v := u) (by rw [cell_hw hw']; exact hc)
  simp [execOp, ho, hev x _ hx, Instr.loadAt, Instr.sureAddr, this]
theorem opv_loadE {t : TypeId} {x : Operand} {u : Value} {i : Nat} {y : α} (ho : o.op = .load t x) (ht : oneCellT P t = true) (h1 : K.size = 1) (hx : φ.ev x = some u) (hp : PtI K.size u v i) (H : SL K e h v l) (hy : l[i]? = some y) : OpV P φ o h (fun r h' => K.rel y [r] ∧ h = h') := by
  obtain ⟨a, r, rfl, hc, hr⟩ := H.cell1 h1 hp hy
  exact (opv_load ho ht hx hc).mono (by rintro _ _ ⟨rfl, rfl⟩; exact ⟨hr, rfl⟩)
theorem opv_loadI {k : IntKind} {l : List Int} {t : TypeId} {x : Operand} {u : Value} {n : Int} {y : Int} (ho : o.op = .load t x) (ht : oneCellT P t = true) (hx : φ.ev x = some u) (hp : PtI 1 u v n.toNat) (H : SL (kI k) e h v l) (hy : idx l n = some y) : OpV P φ o h (Det (.int k y) h) :=
  (opv_loadE (K := kI k) ho ht rfl hx hp H (idx_some hy).2.2).mono (by rintro r _ ⟨hw, rfl⟩; change [r] = [.int k y] at hw; simp at hw; subst hw; exact ⟨rfl, rfl⟩)
end
section
variable {P : Program} {φ : Fr} {h : Heap} {o : Oper} {α : Type} {K : Kd α} {e : Nat} {v : Value} {l : List α}
end
section
variable {P : Program} {φ : Fr} {h : Heap} {o : Oper} {α : Type} {K : Kd α} {e : Nat} {v : Value} {l : List α}
end
section
variable {P : Program} {φ : Fr} {h : Heap} {o : Oper}
end
section
variable {α : Type} {K : Kd α} {h0 h : Heap} {v : Value} {l : List α}
end
variable {P : Program} {φ : Fr} {h : Heap} {o : Oper} {α : Type} {K : Kd α}
section
variable {P : Program} {φ : Fr} {h : Heap} {o : Oper}
end
end Go.HD
