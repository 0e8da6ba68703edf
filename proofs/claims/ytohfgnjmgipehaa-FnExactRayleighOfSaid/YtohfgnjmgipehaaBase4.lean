/- Calls, by heaps. -/
import Derived.Test.YtohfgnjmgipehaaBase3
import Derived.Test.YtohfgnjmgipehaaPure
namespace Go.H
open Go

def CallsH (P : Program) (f : FuncId) (args : Array Value) (h : Heap) (R : Value → Heap → Prop) : Prop :=
  ∀ w : World, w.heap = h → Calls P f args w fun e w' => ∃ v, e = .returned v ∧ Same w w' ∧ R v w'.heap

theorem CallsH.mono {P : Program} {f : FuncId} {args : Array Value} {h : Heap} {R R' : Value → Heap → Prop} (H : CallsH P f args h R) (hr : ∀ v h', R v h' → R' v h') : CallsH P f args h R' :=
  fun w hw => (H w hw).mono fun _ _ ⟨v, e, s, r⟩ => ⟨v, e, s, hr _ _ r⟩

/-- the post of a function's body -/
def Rt (P : Program) (N : Nat) (fn : Func) (R : Value → Heap → Prop) (e : Exit) (φ : Fr) (h : Heap) : Prop :=
  match e with
  | .normal | .ret => ∃ v, (∀ (a : Act) (w : World), Ok N φ a → w.heap = h → (results fn a.tmps).run P w = .ok v w) ∧ R v h
  | _ => False

def argFr : Nat → List Value → Fr
  | _, [] => []
  | k, v :: r => (k, v) :: argFr (k + 1) r

theorem argFr_get : ∀ (k : Nat) (l : List Value) (t : Nat) (v : Value), (argFr k l).get t = some v → k ≤ t ∧ l[t - k]? = some v
  | _, [], _, _, h => by simp [argFr, Fr.get] at h
  | k, u :: r, t, v, h => by
    simp only [argFr, Fr.get] at h
    cases hb : Nat.beq k t with
    | true =>
      rw [hb] at h
      have e := Nat.eq_of_beq_eq_true hb
      subst e
      simpa using h
    | false =>
      rw [hb] at h
      obtain ⟨h1, h2⟩ := argFr_get (k + 1) r t v h
      refine ⟨by omega, ?_⟩
      rw [show t - k = (t - (k + 1)) + 1 from by omega]
      simpa using h2

theorem callsH_of_W0 {P : Program} {f : FuncId} {fn : Func} {c : Code} {l : List Value} {h : Heap} {R : Value → Heap → Prop} (N : Nat)
    (hf : P.funcs[f]? = some fn) (hb : fn.body = some c) (hn : fn.ntmps = N) (hl : Nat.ble l.length N = true) (H : W P N c (Rt P N fn R) (argFr 0 l) h) : CallsH P f l.toArray h R := by
  intro w hw
  subst hn
  have hl' := Nat.le_of_ble_eq_true hl
  refine calls_of_wp hf hb (Code.wp_mono ?_ (H w _ w (Same.refl w) hw ⟨rfl, by simp; omega, fun t v ht => ?_⟩))
  · rintro e a w' ⟨hs, φ, ho, hq⟩
    cases e with
    | normal => obtain ⟨v, h1, h2⟩ := hq; exact ⟨ho.defers, v, h1 a w' ho rfl, v, rfl, hs, h2⟩
    | ret => obtain ⟨v, h1, h2⟩ := hq; exact ⟨ho.defers, v, h1 a w' ho rfl, v, rfl, hs, h2⟩
    | exit id => exact hq.elim
    | goto l => exact hq.elim
    | panic c => exact hq.elim
    | outgrown => exact hq.elim
  · obtain ⟨_, h2⟩ := argFr_get 0 l t v ht
    have hlt := (List.getElem?_eq_some_iff.1 h2).1
    simp only [Nat.sub_zero] at h2 hlt
    rw [Array.getElem?_append_left (by simpa using hlt)]
    simpa using h2

theorem callsH_of_W {P : Program} {f : FuncId} {fn : Func} {c : Code} {l cap : List Value} {h : Heap} {R : Value → Heap → Prop} (N : Nat)
    (hf : P.funcs[f]? = some fn) (hb : fn.body = some c) (hn : fn.ntmps = N) (hl : Nat.ble (l ++ cap).length N = true) (H : W P N c (Rt P N fn R) (argFr 0 (l ++ cap)) h) : CallsH P f (l.toArray ++ cap.toArray) h R := by
  have := callsH_of_W0 N hf hb hn hl H
  simpa using this

theorem Fr.sub_trans {ψ χ φ : Fr} (h1 : Fr.sub ψ χ) (h2 : Fr.sub χ φ) : Fr.sub ψ φ := by
  induction ψ with
  | nil => trivial
  | cons p r ih => exact ⟨Fr.get_of_sub h2 h1.1, ih h1.2⟩

section
variable {P : Program} {N : Nat} {φ : Fr} {h : Heap} {fn : Func} {R : Value → Heap → Prop}

theorem Ok.getD {a : Act} (ho : Ok N φ a) {t : Nat} {v : Value} (ht : φ.get t = some v) : a.tmps.getD t undef = v := by
  have := ho.slot t v ht
  rw [Array.getD_eq_getD_getElem?, this]; rfl

theorem Rt.one {t : Tmp} {v : Value} (hr : fn.results = #[.tmp t]) (ht : φ.get t = some v) (H : R v h) : Rt P N fn R .ret φ h :=
  ⟨v, fun a w ho _ => by rw [results_tmp hr, ho.getD ht], H⟩
theorem Rt.one' {t : Tmp} {v : Value} (hr : fn.results = #[.tmp t]) (ht : φ.get t = some v) (H : R v h) : Rt P N fn R .normal φ h :=
  ⟨v, fun a w ho _ => by rw [results_tmp hr, ho.getD ht], H⟩
theorem Rt.two {t u : Tmp} {v x : Value} (hr : fn.results = #[.tmp t, .tmp u]) (ht : φ.get t = some v) (hu : φ.get u = some x) (H : R (.tuple #[v, x]) h) : Rt P N fn R .ret φ h :=
  ⟨_, fun a w ho _ => by rw [results_tmp2 hr, ho.getD ht, ho.getD hu], H⟩
theorem Rt.none (hr : fn.results = #[]) (H : R (.tuple #[]) h) : Rt P N fn R .ret φ h :=
  ⟨_, fun a w _ _ => by rw [results_none hr], H⟩
theorem Rt.none' (hr : fn.results = #[]) (H : R (.tuple #[]) h) : Rt P N fn R .normal φ h :=
  ⟨_, fun a w _ _ => by rw [results_none hr], H⟩

/-- arguments as told -/
def Fr.evs (φ : Fr) : List Operand → List Value → Prop
  | [], [] => True
  | x :: xs, v :: vs => φ.ev x = some v ∧ Fr.evs φ xs vs
  | _, _ => False

theorem Fr.evs_map {a : Act} (hev : ∀ x v, φ.ev x = some v → a.eval x = v) : ∀ {xs : List Operand} {vs : List Value}, φ.evs xs vs → xs.map a.eval = vs
  | [], [], _ => rfl
  | x :: xs, v :: vs, h => by rw [List.map_cons, hev x v h.1, Fr.evs_map hev h.2]
  | [], _ :: _, h => h.elim
  | _ :: _, [], h => h.elim

/-- a call of a function of the text -/
theorem opv_call {o : Oper} {c : Operand} {xs : List Operand} {ts : Array TypeId} {vs : List Value} {f : FuncId} {cap : List Value} {fn : Func} {b : Code} {R : Value → Heap → Prop}
    (H : CallsH P f (vs.toArray ++ cap.toArray) h R) (ho : o.op = .call { callee := .value c, args := xs.toArray, argTypes := ts }) (hc : φ.ev c = some (.func (.func f) #[] cap.toArray)) (hx : φ.evs xs vs)
    (hf : P.funcs[f]? = some fn) (hn : (fn.name == "runtime.NumGoroutine") = false) (hb : fn.body = some b) : OpV P φ o h R := by
  intro a w hev hw
  refine .inr (.inr ⟨f, vs.toArray ++ cap.toArray, w, ?_, Same.refl w, H w hw⟩)
  have hm : xs.map a.eval = vs := Fr.evs_map hev hx
  have hm' : xs.toArray.map a.eval = vs.toArray := by simp [hm]
  have hn' : ¬ fn.name = "runtime.NumGoroutine" := by simpa using hn
  simp [execOp, ho, resolve, hev c _ hc, hm', Deferred.ofValue, invoke, callFunc, hf, hn', hb]

theorem RL.opD {ops : Array Oper} {Q : Exit → Fr → Heap → Prop} {d : Nat} {op : Op} {ty : TypeId} {ps : String} {af : Array Edge} {l : List Oper} {u : Value} (hd : d < N)
    (H : OpV P φ { dst := some d, op := op, type := ty, pos := ps, after := af, guard := none } h (Det u h)) (hn : RL P N ops Q l ((d, u) :: φ) h) :
    RL P N ops Q ({ dst := some d, op := op, type := ty, pos := ps, after := af, guard := none } :: l) φ h :=
  RL.op _ hd H fun _ _ hv => hv.1 ▸ hv.2 ▸ hn

theorem RL.opF {ops : Array Oper} {Q : Exit → Fr → Heap → Prop} {d : Nat} {op : Op} {ty : TypeId} {ps : String} {af : Array Edge} {l : List Oper} {k : FloatKind} {x : Option Nat} (hd : d < N)
    (H : OpV P φ { dst := some d, op := op, type := ty, pos := ps, after := af, guard := none } h (Flt k x h)) (hn : ∀ v, IsF k v x → RL P N ops Q l ((d, v) :: φ) h) :
    RL P N ops Q ({ dst := some d, op := op, type := ty, pos := ps, after := af, guard := none } :: l) φ h :=
  RL.op _ hd H fun v _ hv => hv.2 ▸ hn v hv.1

/-- an operation whose guard says yes -/
theorem RL.yes {ops : Array Oper} {Q : Exit → Fr → Heap → Prop} {d j t : Nat} {b want : Bool} {op : Op} {ty : TypeId} {ps : String} {af : Array Edge} {l : List Oper} (K : Value → Heap → Prop)
    (hj : (ops[j]?).bind (·.dst) = some t) (hb : φ.get t = some (.bool b)) (hw : b = want) (hd : d < N) (H : OpV P φ { dst := some d, op := op, type := ty, pos := ps, after := af, guard := some (j, want) } h K)
    (hn : ∀ v h', K v h' → RL P N ops Q l ((d, v) :: φ) h') :
    RL P N ops Q ({ dst := some d, op := op, type := ty, pos := ps, after := af, guard := some (j, want) } :: l) φ h := by
  intro w0 a w hs hwh ho
  have hy : yielded ops a.tmps j = some b := by
    unfold yielded
    rw [hj]
    simp [ho.slot t _ hb]
  refine wpList_step fun K' hK' => ?_
  rw [if_pos (by simp [Region.wanted, hy, hw])]
  exact H.wp ho hwh hs fun v w' hs' hk => hK' _ _ (hn v _ hk w0 _ w' hs' rfl (ho.put hd v))

theorem RL.no {ops : Array Oper} {Q : Exit → Fr → Heap → Prop} {d j t : Nat} {b want : Bool} {op : Op} {ty : TypeId} {ps : String} {af : Array Edge} {l : List Oper}
    (hj : (ops[j]?).bind (·.dst) = some t) (hb : φ.get t = some (.bool b)) (hw : b = !want) (hd : d < N) (hn : RL P N ops Q l ((d, undef) :: φ) h) :
    RL P N ops Q ({ dst := some d, op := op, type := ty, pos := ps, after := af, guard := some (j, want) } :: l) φ h := by
  intro w0 a w hs hwh ho
  have hy : yielded ops a.tmps j = some b := by
    unfold yielded
    rw [hj]
    simp [ho.slot t _ hb]
  refine wpList_step fun K' hK' => ?_
  have hne : ¬ b = want := by rw [hw]; cases want <;> simp
  rw [if_neg (by simp [Region.wanted, hy, hne])]
  exact hK' _ _ (hn w0 _ w hs hwh (ho.put hd undef))

theorem RL.noU {ops : Array Oper} {Q : Exit → Fr → Heap → Prop} {d j t : Nat} {want : Bool} {op : Op} {ty : TypeId} {ps : String} {af : Array Edge} {l : List Oper}
    (hj : (ops[j]?).bind (·.dst) = some t) (hb : φ.get t = some undef) (hd : d < N) (hn : RL P N ops Q l ((d, undef) :: φ) h) :
    RL P N ops Q ({ dst := some d, op := op, type := ty, pos := ps, after := af, guard := some (j, want) } :: l) φ h := by
  intro w0 a w hs hwh ho
  have hy : yielded ops a.tmps j = none := by
    unfold yielded
    rw [hj]
    simp [ho.slot t _ hb, undef]
  refine wpList_step fun K' hK' => ?_
  rw [if_neg (by simp [Region.wanted, hy])]
  exact hK' _ _ (hn w0 _ w hs hwh (ho.put hd undef))

/-- a cut: what is known behind a piece of code -/
def only (Q : Exit → Fr → Heap → Prop) (R : Fr → Heap → Prop) (e : Exit) (φ : Fr) (h : Heap) : Prop :=
  match e with
  | .normal => R φ h
  | e => Q e φ h

theorem W.cut {c : Code} {Q : Exit → Fr → Heap → Prop} (R : Fr → Heap → Prop) (H1 : W P N c (only Q R) φ h) (H2 : ∀ φ' h', R φ' h' → Q .normal φ' h') : W P N c Q φ h :=
  H1.mono fun e φ' h' hq => by cases e <;> first | exact H2 φ' h' hq | exact hq

section
variable {Q : Exit → Fr → Heap → Prop} {Rr : Fr → Heap → Prop} {y : Code} {id i : Nat}
theorem thnN (H : W P N y Q φ h) : thn P N y Q .normal φ h := H
theorem thnX (H : Q (.exit i) φ h) : thn P N y Q (.exit i) φ h := H
theorem thnR (H : Q .ret φ h) : thn P N y Q .ret φ h := H
theorem blkN (H : Q .normal φ h) : blk id Q .normal φ h := H
theorem blkI (H : Q .normal φ h) : blk id Q (.exit id) φ h := by
  show (bif Nat.beq id id then Q .normal φ h else Q (.exit id) φ h)
  have : Nat.beq id id = true := by simp
  rw [this]; exact H
theorem blkO (e : Nat.beq i id = false) (H : Q (.exit i) φ h) : blk id Q (.exit i) φ h := by
  show (bif Nat.beq i id then Q .normal φ h else Q (.exit i) φ h)
  rw [e]; exact H
theorem blkR (H : Q .ret φ h) : blk id Q .ret φ h := H
theorem onlyN (H : Rr φ h) : only Q Rr .normal φ h := H
theorem onlyX (H : Q (.exit i) φ h) : only Q Rr (.exit i) φ h := H
theorem onlyR (H : Q .ret φ h) : only Q Rr .ret φ h := H

/-- the post of a round -/
def rnd {S E : Type} (inv : S → Fr → Heap → Prop) (o : S ⊕ E) (Q : Exit → Fr → Heap → Prop) (e : Exit) (φ : Fr) (h : Heap) : Prop :=
  match e with
  | .normal => ∃ s', o = .inl s' ∧ inv s' φ h
  | e => Q e φ h
theorem rndN {S E : Type} {inv : S → Fr → Heap → Prop} {o : S ⊕ E} {s' : S} (e : o = .inl s') (H : inv s' φ h) : rnd inv o Q .normal φ h := ⟨s', e, H⟩
theorem rndX {S E : Type} {inv : S → Fr → Heap → Prop} {o : S ⊕ E} (H : Q (.exit i) φ h) : rnd inv o Q (.exit i) φ h := H
theorem rndR {S E : Type} {inv : S → Fr → Heap → Prop} {o : S ⊕ E} (H : Q .ret φ h) : rnd inv o Q .ret φ h := H

theorem WR_of {S E : Type} {step : S → Option (S ⊕ E)} {c : Code} {yv : E} (inv : S → Fr → Heap → Prop)
    (round : ∀ s φ h o, inv s φ h → step s = some o → (∀ e, o = .inr e → e = yv) → W P N c (rnd inv o Q) φ h) :
    ∀ n s φ h, runN step n s = some yv → inv s φ h → WR P N c Q n φ h
  | 0, _, _, _, hn, _ => by simp [runN] at hn
  | n + 1, s, φ, h, hn, hi => by
    rw [runN] at hn
    obtain ⟨o, ho, hr⟩ := Option.bind_eq_some_iff.1 hn
    refine WR.succ (W.mono (round s φ h o hi ho fun e he => ?_) ?_)
    · subst he; exact Option.some.inj hr
    · intro e φ' h' hq
      cases e with
      | normal =>
        obtain ⟨s', rfl, hi'⟩ := hq
        exact WR_of inv round n s' φ' h' hr hi'
      | exit _ => exact hq
      | goto _ => exact hq
      | ret => exact hq
      | panic _ => exact hq
      | outgrown => exact hq

theorem W.loopS {S E : Type} {step : S → Option (S ⊕ E)} {c : Code} {yv : E} {s : S} (inv : S → Fr → Heap → Prop) (hy : loopF step s = some yv) (h0 : inv s φ h)
    (round : ∀ s φ h o, inv s φ h → step s = some o → (∀ e, o = .inr e → e = yv) → W P N c (rnd inv o Q) φ h) : W P N (.loop c) Q φ h := by
  obtain ⟨n, hn⟩ := loopF_run hy
  exact W.loop n (WR_of inv round n s φ h hn h0)
end
end
end Go.H
