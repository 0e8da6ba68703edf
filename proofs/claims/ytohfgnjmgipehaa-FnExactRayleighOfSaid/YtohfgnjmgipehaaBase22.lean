/- Shorter steps of the heap; arithmetic and things made among operations that are taken first; values of array types. -/
import Derived.Test.YtohfgnjmgipehaaBase21
set_option linter.unusedVariables false
namespace Go.H
open Go

theorem Sep.turn {B : List (Option Nat)} {h0 h h' : Heap} {A L A' : List Thing} (X : Mod B h0 h) (S : Sep B h0.size h (A ++ L)) (M : Mod (A.map (·.blk)) h h') (T : Sep (A.map (·.blk)) h.size h' A') : Mod B h0 h' ∧ Sep B h0.size h' (A' ++ L) :=
  ⟨Mod.step X S M, Sep.step S X.size M T⟩
theorem Sep.turn0 {B : List (Option Nat)} {h0 h h' : Heap} {L A' : List Thing} (X : Mod B h0 h) (S : Sep B h0.size h L) (M : Mod [] h h') (T : Sep [] h.size h' A') : Mod B h0 h' ∧ Sep B h0.size h' (A' ++ L) :=
  ⟨Mod.step (A := []) X S M, Sep.step (A := []) S X.size M T⟩

section
variable {P : Program} {N : Nat} {φ : Fr} {h : Heap} {o : Oper}

/-- an operation whose guard says yes, and that gives this value -/
theorem RL.yesD {ops : Array Oper} {Q : Exit → Fr → Heap → Prop} {d j t : Nat} {b want : Bool} {op : Op} {ty : TypeId} {ps : String} {af : Array Edge} {l : List Oper} {u : Value}
    (hj : (ops[j]?).bind (·.dst) = some t) (hb : φ.get t = some (.bool b)) (hw : b = want) (hd : d < N) (H : OpV P φ { dst := some d, op := op, type := ty, pos := ps, after := af, guard := some (j, want) } h (Det u h))
    (hn : RL P N ops Q l ((d, u) :: φ) h) :
    RL P N ops Q ({ dst := some d, op := op, type := ty, pos := ps, after := af, guard := some (j, want) } :: l) φ h :=
  RL.yes _ hj hb hw hd H fun _ _ hv => hv.1 ▸ hv.2 ▸ hn
theorem RL.noT {ops : Array Oper} {Q : Exit → Fr → Heap → Prop} {d j t : Nat} {b : Bool} {op : Op} {ty : TypeId} {ps : String} {af : Array Edge} {l : List Oper}
    (hj : (ops[j]?).bind (·.dst) = some t) (hb : φ.get t = some (.bool b)) (hw : b = true) (hd : d < N) (hn : RL P N ops Q l ((d, undef) :: φ) h) :
    RL P N ops Q ({ dst := some d, op := op, type := ty, pos := ps, after := af, guard := some (j, false) } :: l) φ h := RL.no hj hb hw hd hn
theorem RL.noF {ops : Array Oper} {Q : Exit → Fr → Heap → Prop} {d j t : Nat} {b : Bool} {op : Op} {ty : TypeId} {ps : String} {af : Array Edge} {l : List Oper}
    (hj : (ops[j]?).bind (·.dst) = some t) (hb : φ.get t = some (.bool b)) (hw : b = false) (hd : d < N) (hn : RL P N ops Q l ((d, undef) :: φ) h) :
    RL P N ops Q ({ dst := some d, op := op, type := ty, pos := ps, after := af, guard := some (j, true) } :: l) φ h := RL.no hj hb hw hd hn

theorem opx_int {op : BinOp} {t t' : TypeId} {x y : Operand} {k : IntKind} {m n : Int} (ho : o.op = .binOp op t x y t') (hop : op = .add ∨ op = .sub ∨ op = .mul) (hx : φ.ev x = some (.int k m)) (hy : φ.ev y = some (.int k n)) :
    OpX P φ o h (.int k (k.wrap (arith op m n))) := by
  intro a w hev hw
  rcases hop with rfl | rfl | rfl <;> simp [execOp, ho, hev x _ hx, hev y _ hy, eqGuard, binOp, Op.intArith, arith]
theorem opx_add {t t' : TypeId} {x y : Operand} {k : IntKind} {m n : Int} (ho : o.op = .binOp .add t x y t') (hx : φ.ev x = some (.int k m)) (hy : φ.ev y = some (.int k n)) : OpX P φ o h (.int k (k.wrap (m + n))) := opx_int ho (.inl rfl) hx hy
theorem opx_sub {t t' : TypeId} {x y : Operand} {k : IntKind} {m n : Int} (ho : o.op = .binOp .sub t x y t') (hx : φ.ev x = some (.int k m)) (hy : φ.ev y = some (.int k n)) : OpX P φ o h (.int k (k.wrap (m - n))) := opx_int ho (.inr (.inl rfl)) hx hy
theorem opx_mul {t t' : TypeId} {x y : Operand} {k : IntKind} {m n : Int} (ho : o.op = .binOp .mul t x y t') (hx : φ.ev x = some (.int k m)) (hy : φ.ev y = some (.int k n)) : OpX P φ o h (.int k (k.wrap (m * n))) := opx_int ho (.inr (.inr rfl)) hx hy
theorem opx_quo {t t' : TypeId} {x y : Operand} {k : IntKind} {m n : Int} (ho : o.op = .binOp .quo t x y t') (hn : n ≠ 0) (hx : φ.ev x = some (.int k m)) (hy : φ.ev y = some (.int k n)) : OpX P φ o h (.int k (k.wrap (m.tdiv n))) := by
  intro a w hev hw
  simp [execOp, ho, hev x _ hx, hev y _ hy, eqGuard, binOp, Op.intDiv, hn]
theorem opx_rem {t t' : TypeId} {x y : Operand} {k : IntKind} {m n : Int} (ho : o.op = .binOp .rem t x y t') (hn : n ≠ 0) (hx : φ.ev x = some (.int k m)) (hy : φ.ev y = some (.int k n)) : OpX P φ o h (.int k (m.tmod n)) := by
  intro a w hev hw
  simp [execOp, ho, hev x _ hx, hev y _ hy, eqGuard, binOp, Op.intDiv, hn]
theorem opx_icmp {op : BinOp} {t t' : TypeId} {x y : Operand} {k : IntKind} {m n : Int} (ho : o.op = .binOp op t x y t') (hop : (match op with | .eql | .neq | .lss | .leq | .gtr | .geq => true | _ => false) = true) (hx : φ.ev x = some (.int k m)) (hy : φ.ev y = some (.int k n)) :
    OpX P φ o h (.bool (icmp op m n)) := by
  intro a w hev hw
  cases op <;> simp at hop <;> simp [execOp, ho, hev x _ hx, hev y _ hy, eqGuard, binOp, Op.intCmp, icmp]

/-- the only one that may come, and that gives a value -/
theorem TK.stepD {Q : Exit → Fr → Heap → Prop} {ops : List Oper} {S : Heap → Prop} (i : Nat) {o : Oper} {d : Nat} {fuel : Nat} {listed : Array Bool} (K : Value → Heap → Prop) (hi : ops[i]? = some o) (hd : o.dst = some d) (hg : o.guard = none) (hdN : d < N)
    (hr : (Region.ready .any ops.toArray listed == [i]) = true) (hV : OpV P φ o h K) (H : ∀ v h', K v h' → S h' ∧ TK P N ops Q S fuel (listed.setIfInBounds i true) ((d, v) :: φ) h') : TK P N ops Q S (fuel + 1) listed φ h := by
  intro w0 a w hs hw ho hS
  have hr' : Region.ready .any ops.toArray listed = [i] := by simpa using hr
  refine wpAnyH_all hr' (by simp) (fun j hj => ?_)
  have hj : j = i := by simpa using hj
  subst hj
  have hi' : ops.toArray[j]? = some o := by simpa using hi
  unfold wpOp
  rw [hi']
  simp only
  rw [if_pos (by simp [Region.wanted, hg])]
  refine .inl (OpV.wp hV ho hw hs fun v w' hs' hk => ?_)
  rw [hd]
  obtain ⟨h1, h2⟩ := H v w'.heap hk
  exact ⟨h1, h2 w0 _ w' hs' rfl (ho.put' hdN) h1⟩

/-- the zero's cells of an array, and where its elements lie -/
def bldArr (P : Program) (t : TypeId) : Option (List Value × List (Nat × Nat)) :=
  match P.info? t, P.underlying t with
  | some it, some (.array n e) =>
    match it.zero, P.info? e with
    | some z, some ie => some (z.cells.toList, (List.range n).map fun i => (i * ie.size, ie.size))
    | _, _ => none
  | _, _ => none

theorem fill_total {f g : Nat → Option (Nat × Nat)} (hfg : ∀ i q, f i = some q → g i = some q) : ∀ {vs : List (Nat × Value)} {cs r : Array Value}, Instr.fill f cs vs = some r → Instr.fill g cs vs = some r
  | [], _, _, h => h
  | (i, v) :: vs, cs, r, h => by
    unfold Instr.fill at h ⊢
    cases hf : f i with
    | none => rw [hf] at h; cases h
    | some q =>
      rw [hf] at h
      rw [hfg i q hf]
      simp only at h ⊢
      split at h
      · cases h
      · rename_i hn
        rw [if_neg hn]
        exact fill_total hfg h

theorem opv_buildArr {t : TypeId} {xs : List (Nat × Operand)} {zs cs : List Value} {places : List (Nat × Nat)} (r : List (Nat × List Value)) (vs : List (Nat × Value)) (ho : o.op = .build t xs.toArray) (hb : bldArr P t = some (zs, places)) (hp : partsOK φ xs r vs) (hf : fillL places zs r = some cs) : OpV P φ o h (Det (.agg cs.toArray) h) := by
  intro a w hev hw
  refine .inl ⟨_, w, ?_, Same.refl w, rfl, hw.symm⟩
  have hbt : P.built t vs = some cs.toArray := by
    unfold bldArr at hb
    unfold Program.built
    split at hb
    · rename_i it n e h1 h2
      split at hb
      · rename_i z ie h3 h4
        cases hb
        simp only [h1, h2, h3, h4]
        have := fill_of hp hf
        refine fill_total ?_ (by simpa using this)
        intro i q hq
        have hq : ((List.range n).map fun i => (i * ie.size, ie.size))[i]? = some q := by simpa using hq
        rw [List.getElem?_map] at hq
        by_cases hi : i < n
        · simp only [List.getElem?_range hi, Option.map_some] at hq
          exact hq
        · rw [List.getElem?_eq_none (by simpa using hi)] at hq; cases hq
      · cases hb
    · cases hb
  have hm := partsOK.map (a := a) hev hp
  have hm' : (xs.toArray.map fun (x : Nat × Operand) => (x.1, a.eval x.2)).toList = vs := by simp [hm]
  have := run_build w t (xs.toArray.map fun (x : Nat × Operand) => (x.1, a.eval x.2)) cs.toArray (by rw [hm']; exact hbt)
  simp [execOp, ho] at this ⊢
  simp [this]

def arrLen (P : Program) (t : TypeId) : Option (Nat × TypeId) := match P.underlying t with
  | some (.array n e) => some (n, e)
  | _ => none
theorem arrLen_spec {t : TypeId} {n : Nat} {e : TypeId} (h : arrLen P t = some (n, e)) : P.underlying t = some (.array n e) := by
  unfold arrLen at h
  split at h
  · rename_i h2; cases h; exact h2
  · cases h

theorem flat2_get (l : List (Int × Int)) (j : Nat) {y : Int × Int} (hy : l[j]? = some y) : ((l.flatMap (fun p => [Value.int .i64 p.1, Value.int .i64 p.2])).drop (j * 2)).take 2 = [Value.int .i64 y.1, Value.int .i64 y.2] := by
  induction l generalizing j with
  | nil => cases hy
  | cons p l ih =>
    cases j with
    | zero => simp at hy; subst hy; simp
    | succ j =>
      have := ih j (by simpa using hy)
      rw [show (j + 1) * 2 = j * 2 + 2 by omega]
      simpa using this

/-- an element of an array of pairs -/
theorem opv_indexII {L : List (Int × Int)} {t E : TypeId} {len : Nat} {x i : Operand} {k : IntKind} {n : Int} {y : Int × Int} {cs : List Value} (ho : o.op = .index t x i) (ht : arrLen P t = some (len, E)) (hE : aggT P E = true) (hs : (P.info? E).map (·.size) = some 2) (hx : φ.ev x = some (.agg cs.toArray)) (hc : cs = L.flatMap (fun p => [Value.int .i64 p.1, Value.int .i64 p.2])) (hl : L.length = len) (hi : φ.ev i = some (.int k n)) (hn : idx L n = some y) : OpV P φ o h (Det (.agg [Value.int .i64 y.1, Value.int .i64 y.2].toArray) h) := by
  intro a w hev hw
  refine .inl ⟨_, w, ?_, Same.refl w, rfl, hw.symm⟩
  obtain ⟨h0, h1, h2⟩ := idx_some hn
  obtain ⟨info, hinfo, hsz⟩ := Option.map_eq_some_iff.1 hs
  have hf := flat2_get L n.toNat h2
  have hu := arrLen_spec ht
  subst hc
  have h1' : n < (len : Int) := by omega
  have he : ((L.flatMap (fun p => [Value.int .i64 p.1, Value.int .i64 p.2])).toArray).extract (n.toNat * 2) (n.toNat * 2 + 2) = [Value.int .i64 y.1, Value.int .i64 y.2].toArray := by
    rw [← hf, List.extract_toArray, List.extract_eq_take_drop]
    congr 2
    omega
  simp only [execOp, ho, hev x _ hx, hev i _ hi]
  simp [Instr.index, asIntOf, run_underlying hu, h0, h1', sizeOf, typeInfo, hinfo, hsz, part, run_isAgg hE]
  simpa using he

/-- the address of an array's element -/
theorem opv_indexArr {t E : TypeId} {len sz : Nat} {x i : Operand} {k : IntKind} {n : Nat} {b off : Nat} (ho : o.op = .indexAddr t x i) (ht : arrLen P t = some (len, E)) (hs : (P.info? E).map (·.size) = some sz) (hx : φ.ev x = some (.pointer (some ⟨b, off, none⟩))) (hi : φ.ev i = some (.int k (n : Int))) (hn : Nat.blt n len = true) : OpV P φ o h (Det (.pointer (some ⟨b, off + n * sz, none⟩)) h) := by
  intro a w hev hw
  refine .inl ⟨_, w, ?_, Same.refl w, rfl, hw.symm⟩
  obtain ⟨info, hinfo, hsz⟩ := Option.map_eq_some_iff.1 hs
  have hu := arrLen_spec ht
  have hlt : n < len := Nat.le_of_ble_eq_true hn
  have h1 : (0 : Int) ≤ (n : Int) ∧ (n : Int) < (len : Int) := ⟨by omega, by omega⟩
  simp [execOp, ho, hev x _ hx, hev i _ hi, Instr.indexAt, Instr.sureAddr, asIntOf, run_underlying hu, h1, sizeOf, typeInfo, hinfo, hsz, add_lit, hlt]
end
end Go.H
