/- Regions that draw their order: two loads of which either may come first; a list of one's own that is cut. -/
import Derived.Test.YtjlnfficehomhaaDoorLibB
set_option linter.unusedVariables false
namespace Go.H
open Go

section
variable {P : Program} {N : Nat} {φ : Fr} {h : Heap} {o : Oper}

theorem OpX.det {u : Value} (hX : OpX P φ o h u) : OpV P φ o h (Det u h) := by
  intro a w hev hw'
  exact .inl ⟨_, w, hX a w hev hw', Same.refl w, rfl, hw'.symm⟩

theorem Ok.swap {a : Act} {d e : Nat} {u v : Value} (hne : (d == e) = false) (ho : Ok N ((d, u) :: (e, v) :: φ) a) : Ok N ((e, v) :: (d, u) :: φ) a := by
  refine ⟨ho.defers, ho.size, fun t x ht => ho.slot t x ?_⟩
  simp only [Fr.get] at ht ⊢
  cases h1 : Nat.beq d t with
  | false => rw [h1] at ht; simpa using ht
  | true =>
    have hd := Nat.eq_of_beq_eq_true h1
    subst hd
    have h2 : Nat.beq e d = false := by
      have : e ≠ d := fun hh => by subst hh; simp at hne
      cases h3 : Nat.beq e d with
      | false => rfl
      | true => exact absurd (Nat.eq_of_beq_eq_true h3) this
    rw [h1, h2] at ht
    simpa using ht

/-- two that may come in either order -/
theorem TK.two {Q : Exit → Fr → Heap → Prop} {ops : List Oper} {S : Heap → Prop} (i j : Nat) {oi oj : Oper} {di dj : Nat} {ui uj : Value} {fuel : Nat} {listed : Array Bool} (hi : ops[i]? = some oi) (hj : ops[j]? = some oj) (hdi : oi.dst = some di) (hdj : oj.dst = some dj) (gi : oi.guard = none) (gj : oj.guard = none) (ni : di < N) (nj : dj < N) (hne : (di == dj) = false)
    (hr : (Region.ready .any ops.toArray listed == [i, j]) = true) (hri : (Region.ready .any ops.toArray (listed.setIfInBounds i true) == [j]) = true) (hrj : (Region.ready .any ops.toArray (listed.setIfInBounds j true) == [i]) = true) (hij : (i == j) = false)
    (x1 : OpX P φ oi h ui) (x2 : OpX P φ oj h uj) (x3 : OpX P ((dj, uj) :: φ) oi h ui) (x4 : OpX P ((di, ui) :: φ) oj h uj) (H : TK P N ops Q S fuel ((listed.setIfInBounds i true).setIfInBounds j true) ((dj, uj) :: (di, ui) :: φ) h) : TK P N ops Q S (fuel + 2) listed φ h := by
  intro w0 a w hs hw ho hS
  have hr' : Region.ready .any ops.toArray listed = [i, j] := by simpa using hr
  have A : TK P N ops Q S (fuel + 1) (listed.setIfInBounds i true) ((di, ui) :: φ) h :=
    TK.stepD j _ hj hdj gj nj hri x4.det (fun v h' ⟨e1, e2⟩ => by
      subst e1 e2
      exact ⟨by rw [hw] at *; exact hS, H⟩)
  have B : TK P N ops Q S (fuel + 1) (listed.setIfInBounds j true) ((dj, uj) :: φ) h :=
    TK.stepD i _ hi hdi gi ni hrj x3.det (fun v h' ⟨e1, e2⟩ => by
      subst e1 e2
      refine ⟨hS, ?_⟩
      rw [Array.setIfInBounds_comm _ _ (by simpa using Ne.symm (by simpa using hij : i ≠ j))]
      intro w1 b w' q1 q2 q3 q4
      exact H w1 b w' q1 q2 (q3.swap (by simpa using hne)) q4)
  refine wpAnyH_all hr' (by simp) (fun k hk => ?_)
  have hk : k = i ∨ k = j := by simpa using hk
  rcases hk with rfl | rfl
  · have hi' : ops.toArray[k]? = some oi := by simpa using hi
    unfold wpOp
    rw [hi']
    simp only
    rw [if_pos (by simp [Region.wanted, gi])]
    refine .inl (OpV.wp x1.det ho hw hs fun v w' hs' hk => ?_)
    rw [hdi]
    obtain ⟨e1, e2⟩ := hk
    subst e1
    exact ⟨by rw [← e2]; exact hS, A w0 _ w' hs' e2.symm (ho.put' ni) hS⟩
  · have hj' : ops.toArray[k]? = some oj := by simpa using hj
    unfold wpOp
    rw [hj']
    simp only
    rw [if_pos (by simp [Region.wanted, gj])]
    refine .inl (OpV.wp x2.det ho hw hs fun v w' hs' hk => ?_)
    rw [hdj]
    obtain ⟨e1, e2⟩ := hk
    subst e1
    exact ⟨by rw [← e2]; exact hS, B w0 _ w' hs' e2.symm (ho.put' nj) hS⟩

/-- a list of one's own, its end cut off: one's own still -/
theorem opS_cutO {α : Type} {K : Kd α} {v : Value} {l : List α} {t E : TypeId} {x y : Operand} {j : Int} {m : List α} {k : IntKind} (ho : o.op = .slice t x none (some y) none) (ht : P.underlying t = some (.slice E)) (hsz : (P.info? E).map (·.size) = some K.size) (hx : φ.ev x = some v) (hy : φ.ev y = some (.int k j))
    (H : (ownO K E v l).holds h) (hm : sub l 0 j = some m) : OpV P φ o h (Made h [ownO K E v l] (fun u => [ownO K E u m])) := by
  intro a w hev hw'
  subst hw'
  have H0 : Own K E 0 w.heap v l := H
  have hlt := H0.bounds
  obtain ⟨xs, ⟨hlen, hc⟩, hr⟩ := H0
  unfold sub at hm
  split at hm
  case isFalse => cases hm
  rename_i hb
  obtain ⟨_, h1, h2⟩ := hb
  cases hm
  obtain ⟨info, hinfo, hsize⟩ := Option.map_eq_some_iff.1 hsz
  have hml : ((l.drop (0 : Int).toNat).take (j.toNat - (0 : Int).toNat)).length = j.toNat := by simp; omega
  have core : ∀ (p : Option Addr) (c : Nat), v = .slice p l.length c → l.length ≤ c → (∀ h0 : (p.map (·.add (0 * K.size))) = p, (execOp a.eval o).run P w = .ok (.value (.slice p j.toNat c)) w) := by
    intro p c hv hlc h0
    subst hv
    have hbounds : ∀ w : World, (Instr.sliceBounds true l.length c none (some (a.eval y)) none).run P w = .ok (0, j.toNat, c) w := by
      intro w
      have hj : (j : Int) ≤ (c : Int) := by omega
      simp [Instr.sliceBounds, Instr.sliceBound, asIntOf, hev y _ hy, h1, hj]
    have hrun : (Instr.sliceAt t (.slice p l.length c) none (some (a.eval y)) none).run P w = .ok (.slice p j.toNat c) w := by
      simp [Instr.sliceAt, run_underlying ht, Instr.slice, hbounds, sizeOf, typeInfo, hinfo, hsize]
      intro _
      simpa using h0
    have hx' := hev x _ hx
    simp only [execOp, ho, hx', Option.map_none]
    simp [hrun]
  have hmod : Mod ([ownO K E v l].flatMap (·.blks)) w.heap w.heap := Mod.refl _ _
  rcases hc with ⟨rfl, hn⟩ | ⟨g, cap, cur, rfl, hb, hg, c1, c2, c3, c4⟩
  · have hj0 : j.toNat = 0 := by omega
    refine .inl ⟨_, w, core none 0 (by rw [hn]) (by omega) rfl, Same.refl w, hmod, Sep.one (x := none) ?_ (fun b hb => by cases hb)⟩
    have e : ((l.drop (0 : Int).toNat).take (j.toNat - (0 : Int).toNat)) = [] := List.eq_nil_of_length_eq_zero (by rw [hml, hj0])
    rw [e, hj0]
    exact ownNil w.heap
  · refine .inl ⟨_, w, core (some ⟨g, 0, none⟩) cap rfl c1 (by simp [Addr.add]), Same.refl w, hmod, Sep.one (x := some g) ?_ (fun b hb => ?_)⟩
    · have hle : j.toNat ≤ l.length := by omega
      have hmul : j.toNat * K.size ≤ l.length * K.size := Nat.mul_le_mul_right _ hle
      refine ⟨xs.take (j.toNat * K.size), ⟨?_, .inr ⟨g, cap, cur, by rw [hml], Nat.zero_le _, hg, by rw [hml]; omega, c2, c3, ?_⟩⟩, ?_⟩
      · rw [hml, List.length_take]; omega
      · rw [hml, ← c4, List.take_take]
        congr 1
        omega
      · have := hr.take j.toNat
        simpa using this
    · cases hb
      exact ⟨(hlt _ rfl).2, .inr (by simp [ownO, Value.ownBlock])⟩
end
end Go.H
