/- Regions that draw their order, whose copies and loads are taken first, one after another. -/
import Derived.Test.YtohfgnjmgipehaaBase17
import Derived.OrdersHeld
set_option linter.unusedVariables false
namespace Go.H
open Go

/-- an operation that gives this value and turns nothing -/
def OpX (P : Program) (φ : Fr) (o : Oper) (h : Heap) (u : Value) : Prop :=
  ∀ (a : Act) (w : World), (∀ x v, φ.ev x = some v → a.eval x = v) → w.heap = h → (execOp a.eval o).run P w = .ok (.value u) w

def TK (P : Program) (N : Nat) (ops : List Oper) (Q : Exit → Fr → Heap → Prop) (S : Heap → Prop) (fuel : Nat) (listed : Array Bool) (φ : Fr) (h : Heap) : Prop :=
  ∀ w0 a w, Same w0 w → w.heap = h → Ok N φ a → S h → wpAnyH P .any ops.toArray (Lift w0 N Q) (fun w => S w.heap) fuel listed a w

section
variable {P : Program} {N : Nat} {Q : Exit → Fr → Heap → Prop} {ops : List Oper} {S : Heap → Prop} {φ : Fr} {h : Heap}

theorem W.regionT {id : Nat} (n : Nat) (S : Heap → Prop) (hn : ops.length = n) (hm : P.follows .mixedOrders = true) (hS : S h) (H : TK P N ops Q S n (Array.replicate n false) φ h) : W P N (.region id ops.toArray true) Q φ h := by
  subst hn
  intro w0 a w hs hw ho
  exact wp_region_held hm (by
    have := H w0 a { w with drawn := w.drawn + 1 } (hs.trans (Same.drawn ..)) hw ho hS
    simpa using this)

theorem Ok.put' {a : Act} (ho : Ok N φ a) {d : Nat} {u : Value} (hd : d < N) : Ok N ((d, u) :: φ) (a.put (some d) u) := by
  refine ⟨ho.defers, by simp [Act.put, ho.size], fun t v ht => ?_⟩
  simp only [Fr.get] at ht
  have hda : d < a.tmps.size := by rw [ho.size]; exact hd
  cases hb : Nat.beq d t with
  | true =>
    rw [hb] at ht
    simp only [cond_true, Option.some.injEq] at ht
    have := Nat.eq_of_beq_eq_true hb
    subst this; subst ht
    simp [Act.put, hda]
  | false =>
    rw [hb] at ht
    have hne : d ≠ t := fun e => by subst e; simp at hb
    have := ho.slot t v ht
    simpa [Act.put, Array.getElem?_setIfInBounds_ne hne] using this

/-- take number 'i' first -/
theorem TK.take (i : Nat) {o : Oper} {d : Nat} {u : Value} {fuel : Nat} {listed : Array Bool} (hi : ops[i]? = some o) (hd : o.dst = some d) (hg : o.guard = none) (hdN : d < N)
    (hc : (Region.noSelect ops.toArray && Region.free .any ops.toArray listed i && (Region.ready .any ops.toArray listed).contains i) = true)
    (hQ : ∀ c φ h, ¬ Q (.panic c) φ h) (hY : ∀ h', S h' → OpX P φ o h' u) (H : TK P N ops Q S fuel (listed.setIfInBounds i true) ((d, u) :: φ) h) : TK P N ops Q S (fuel + 1) listed φ h := by
  intro w0 a w hs hw ho hS
  simp only [Bool.and_eq_true] at hc
  have hi' : ops.toArray[i]? = some o := by simpa using hi
  have hev : ∀ x v, φ.ev x = some v → a.eval x = v := fun x v => ho.eval
  refine wpAnyH_take hi' hc.1.1 hc.1.2 hc.2 (fun c a w hq => ?_) (.inl ⟨by simp [Region.wanted, hg], fun w' hS' => hY w'.heap hS' a w' hev rfl⟩) (by rw [hw]; exact hS) ?_
  · obtain ⟨_, ψ, _, hq⟩ := hq
    exact absurd hq (hQ c ψ _)
  · rw [hd]
    exact H w0 _ w hs hw (ho.put' hdN) hS

/-- the only one that may come -/
theorem TK.step (i : Nat) {o : Oper} {fuel : Nat} {listed : Array Bool} (K : Value → Heap → Prop) (hi : ops[i]? = some o) (hd : o.dst = none) (hg : o.guard = none)
    (hr : (Region.ready .any ops.toArray listed == [i]) = true) (hV : OpV P φ o h K) (H : ∀ v h', K v h' → S h' ∧ TK P N ops Q S fuel (listed.setIfInBounds i true) φ h') : TK P N ops Q S (fuel + 1) listed φ h := by
  intro w0 a w hs hw ho hS
  have hr' : Region.ready .any ops.toArray listed = [i] := by simpa using hr
  refine wpAnyH_all hr' (by simp) (fun j hj => ?_)
  have hj : j = i := by simpa using hj
  subst hj
  have hi' : ops.toArray[j]? = some o := by simpa using hi
  unfold wpOp
  rw [hi']
  simp only
  rw [if_pos (by simp [Region.wanted, hg])]
  refine .inl (OpV.wp hV ho hw hs fun v w' hs' hk => ?_)
  rw [hd]
  obtain ⟨h1, h2⟩ := H v w'.heap hk
  exact ⟨h1, h2 w0 _ w' hs' rfl ho h1⟩

theorem TK.done {fuel : Nat} {listed : Array Bool} (hr : (Region.ready .any ops.toArray listed == []) = true) (H : Q .normal φ h) : TK P N ops Q S fuel listed φ h := by
  intro w0 a w hs hw ho hS
  exact wpAnyH_done (by simpa using hr) ⟨hs, φ, ho, by rw [hw]; exact H⟩ fuel

theorem TK.sub {fuel : Nat} {listed : Array Bool} {ψ : Fr} (hs : Fr.sub ψ φ) (H : TK P N ops Q S fuel listed ψ h) : TK P N ops Q S fuel listed φ h :=
  fun w0 a w hs' hw ho hS => H w0 a w hs' hw (ho.sub hs) hS

theorem opx_move {o : Oper} {x : Operand} {u : Value} (ho : o.op = .move x) (hx : φ.ev x = some u) : OpX P φ o h u := by
  intro a w hev hw; simp [execOp, ho, hev x _ hx]
theorem opx_assign {o : Oper} {x : Operand} {u : Value} (ho : o.op = .assign x) (hx : φ.ev x = some u) : OpX P φ o h u := by
  intro a w hev hw; simp [execOp, ho, hev x _ hx]
theorem opx_nilCheck {o : Oper} {x : Operand} {p : Addr} (ho : o.op = .nilCheck x) (hx : φ.ev x = some (.pointer (some p))) : OpX P φ o h (.pointer (some p)) := by
  intro a w hev hw; simp [execOp, ho, hev x _ hx]
theorem opx_fieldAddr {o : Oper} {s : TypeId} {x : Operand} {f n : Nat} {b k : Nat} (ho : o.op = .fieldAddr s x f) (hf : fieldOff P s f = some n) (hx : φ.ev x = some (.pointer (some ⟨b, k, none⟩))) : OpX P φ o h (.pointer (some ⟨b, k + n, none⟩)) := by
  intro a w hev hw'
  unfold fieldOff at hf
  split at hf
  · rename_i fs hu
    split at hf
    · rename_i fd hfd
      split at hf
      · rename_i i hi
        split at hf
        · cases hf
        · rename_i hz
          cases hf
          simp [execOp, ho, hev x _ hx, Instr.fieldAt, Instr.sureAddr, run_underlying hu, hfd, fieldPlace, sizeOf, typeInfo, hi, hz, add_lit]
      · cases hf
    · cases hf
  · cases hf
theorem opx_loadB {o : Oper} {t : TypeId} {x : Operand} {b k : Nat} {cs : List Value} {u : Value} (ho : o.op = .load t x) (ht : oneCellT P t = true) (hx : φ.ev x = some (.pointer (some ⟨b, k, none⟩))) (H : Bx h b cs) (hu : cs[k]? = some u) : OpX P φ o h u := by
  intro a w hev hw'
  have := run_loadVar_one (P := P) ht (w := w) (a := ⟨b, k, none⟩) (v := u) (by rw [cell_hw hw']; exact H.cell hu)
  simp [execOp, ho, hev x _ hx, Instr.loadAt, Instr.sureAddr, this]
theorem opx_index {α : Type} {K : Kd α} {e : Nat} {v : Value} {l : List α} {o : Oper} {t E : TypeId} {x i : Operand} {k : IntKind} {n : Int} {y : α} (ho : o.op = .indexAddr t x i) (ht : P.underlying t = some (.slice E)) (hs : (P.info? E).map (·.size) = some K.size) (hx : φ.ev x = some v) (hi : φ.ev i = some (.int k n)) (H : SL K e h v l) (hn : idx l n = some y) :
    ∃ u, PtI K.size u v n.toNat ∧ ∀ h', OpX P φ o h' u := by
  obtain ⟨p, c, xs, rfl, hr, hc⟩ := H
  obtain ⟨h0, h1, _⟩ := idx_some hn
  rcases hc with rfl | ⟨q, rfl, hq, hb, hcell⟩
  · simp at h1
  obtain ⟨info, hinfo, hsz⟩ := Option.map_eq_some_iff.1 hs
  have h1' : n < (l.length : Int) := by omega
  refine ⟨.pointer (some (q.add (n.toNat * K.size))), ⟨q, l.length, c, rfl, rfl⟩, fun h' a w hev hw => ?_⟩
  simp [execOp, ho, hev x _ hx, hev i _ hi, Instr.indexAt, asIntOf, run_underlying ht, h0, h1', sizeOf, typeInfo, hinfo, hsz]

theorem TK.index (i : Nat) {o : Oper} {d : Nat} {fuel : Nat} {listed : Array Bool} {α : Type} {K : Kd α} {e : Nat} {v : Value} {l : List α} {t E : TypeId} {x ix : Operand} {k : IntKind} {n : Int} {y : α} (hi : ops[i]? = some o) (hd : o.dst = some d) (hg : o.guard = none) (hdN : d < N)
    (hc : (Region.noSelect ops.toArray && Region.free .any ops.toArray listed i && (Region.ready .any ops.toArray listed).contains i) = true)
    (hQ : ∀ c φ h, ¬ Q (.panic c) φ h) (ho : o.op = .indexAddr t x ix) (ht : P.underlying t = some (.slice E)) (hs : (P.info? E).map (·.size) = some K.size) (hx : φ.ev x = some v) (hix : φ.ev ix = some (.int k n)) (Hl : SL K e h v l) (hn : idx l n = some y)
    (H : ∀ u, PtI K.size u v n.toNat → TK P N ops Q S fuel (listed.setIfInBounds i true) ((d, u) :: φ) h) : TK P N ops Q S (fuel + 1) listed φ h := by
  obtain ⟨u, hu, hY⟩ := opx_index ho ht hs hx hix Hl hn
  exact TK.take i hi hd hg hdN hc hQ (fun h' _ => hY h') (H u hu)
end
end Go.H
