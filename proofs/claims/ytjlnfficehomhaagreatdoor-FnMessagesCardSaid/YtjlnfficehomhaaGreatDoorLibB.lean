/- The library: frames told in part, a judgement on code over them, floats. -/
import Derived.Test.YtjlnfficehomhaaGreatDoorLibA
import Derived.Laws.Tables
import Derived.OrdersHeld
import Derived.MapKept
import Derived.Laws.IdiomStrings
/- Things of the call's own, kept apart. -/
set_option linter.unusedVariables false
namespace Go.H
open Go

/-- what is known of one block (or of nil) -/
structure Thing where
  blks : List (Option Nat)
  holds : Heap → Prop
  stable : ∀ (h h' : Heap), h.size ≤ h'.size → (∀ b, some b ∈ blks → h'[b]? = h[b]?) → holds h → holds h'

def ownO {α : Type} (K : Kd α) (E : TypeId) (v : Value) (l : List α) : Thing where
  blks := [v.ownBlock]
  holds h := Own K E 0 h v l
  stable h h' hs hb H := H.chg (S := fun b => v.ownBlock ≠ some b) ⟨hs, fun k _ hk => hb k (List.mem_singleton.2 (Decidable.byContradiction hk : v.ownBlock = some k).symm)⟩ (fun b h1 h2 => h2 h1)

def boxO (b : Nat) (cs : List Value) : Thing where
  blks := [some b]
  holds h := Bx h b cs
  stable h h' hs hb H := by
    obtain ⟨T, hT⟩ := H
    exact ⟨T, by rw [hb b (List.mem_singleton.2 rfl)]; exact hT⟩

/-- which blocks may have turned -/
structure Mod (B : List (Option Nat)) (h h' : Heap) : Prop where
  size : h.size ≤ h'.size
  same : ∀ b, b < h.size → some b ∉ B → h'[b]? = h[b]?

structure Sep (B : List (Option Nat)) (n : Nat) (h : Heap) (L : List Thing) : Prop where
  holds : ∀ o ∈ L, o.holds h
  blk : ∀ o ∈ L, ∀ b, some b ∈ o.blks → b < h.size ∧ (n ≤ b ∨ some b ∈ B)
  apart : L.Pairwise (fun o o' => ∀ b, some b ∈ o.blks → some b ∉ o'.blks)

theorem Mod.refl (B : List (Option Nat)) (h : Heap) : Mod B h h := ⟨Nat.le_refl _, fun _ _ _ => rfl⟩
theorem Mod.trans {B : List (Option Nat)} {a b c : Heap} (x : Mod B a b) (y : Mod B b c) : Mod B a c :=
  ⟨Nat.le_trans x.size y.size, fun k hk hn => (y.same k (Nat.lt_of_lt_of_le hk x.size) hn).trans (x.same k hk hn)⟩
theorem Mod.ext {h h' : Heap} (x : Mod [] h h') : Ext h h' := ⟨x.size, fun b hb => x.same b hb (by simp)⟩
theorem Ext.mod {h h' : Heap} (x : Ext h h') (B : List (Option Nat)) : Mod B h h' := ⟨x.size, fun b hb _ => x.blk b hb⟩
theorem Mod.of_chg {h h' : Heap} {x : Option Nat} (c : Chg (fun k => x = some k) h h') : Mod [x] h h' := ⟨c.size, fun b hb hn => c.blk b hb (fun e => hn (by simp [e]))⟩

theorem Sep.nil (B : List (Option Nat)) (n : Nat) (h : Heap) : Sep B n h [] := ⟨by simp, by simp, List.Pairwise.nil⟩
theorem Sep.one' {B : List (Option Nat)} {n : Nat} {h : Heap} {o : Thing} (ho : o.holds h) (hb : ∀ b, some b ∈ o.blks → b < h.size ∧ (n ≤ b ∨ some b ∈ B)) : Sep B n h [o] :=
  ⟨by simp [ho], by simpa using hb, by simp⟩
theorem Sep.one {B : List (Option Nat)} {n : Nat} {h : Heap} {o : Thing} {x : Option Nat} (ho : o.holds h) (hb : ∀ b, x = some b → b < h.size ∧ (n ≤ b ∨ some b ∈ B)) (hx : o.blks = [x] := by rfl) : Sep B n h [o] :=
  Sep.one' ho fun b h => hb b (by rw [hx] at h; exact (List.mem_singleton.1 h).symm)
theorem Sep.ext {B : List (Option Nat)} {n : Nat} {h h' : Heap} {L : List Thing} (S : Sep B n h L) (x : Ext h h') : Sep B n h' L :=
  ⟨fun o ho => o.stable h h' x.size (fun b hb => x.blk b (S.blk o ho b hb).1) (S.holds o ho), fun o ho b hb => ⟨Nat.lt_of_lt_of_le (S.blk o ho b hb).1 x.size, (S.blk o ho b hb).2⟩, S.apart⟩
theorem Sep.at {B : List (Option Nat)} {n : Nat} {h : Heap} {L : List Thing} (S : Sep B n h L) (i : Nat) {o : Thing} (ho : L[i]? = some o) : o.holds h := S.holds o (List.mem_of_getElem? ho)
/-- all that is told of things of one's own may be told as a callee wants it -/
theorem Sep.own {B : List (Option Nat)} {n : Nat} {h : Heap} {L : List Thing} (S : Sep B n h L) (m : Nat) : Sep (L.flatMap (·.blks)) m h L :=
  ⟨S.holds, fun o ho b hb => ⟨(S.blk o ho b hb).1, .inr (List.mem_flatMap.2 ⟨o, ho, hb⟩)⟩, S.apart⟩
theorem Sep.weak {B : List (Option Nat)} {n m : Nat} {h : Heap} {L : List Thing} (S : Sep B n h L) (hm : m ≤ n) : Sep B m h L :=
  ⟨S.holds, fun o ho b hb => ⟨(S.blk o ho b hb).1, (S.blk o ho b hb).2.imp (Nat.le_trans hm) id⟩, S.apart⟩

/-- some of them, in another order -/
theorem Sep.sel {B : List (Option Nat)} {n : Nat} {h : Heap} {L : List Thing} (S : Sep B n h L) (is : List Nat) (hi : is.Nodup) : Sep B n h (is.filterMap (L[·]?)) := by
  have hm : ∀ o ∈ is.filterMap (L[·]?), o ∈ L := by
    intro o ho
    obtain ⟨i, _, h1⟩ := List.mem_filterMap.1 ho
    exact List.mem_of_getElem? h1
  refine ⟨fun o ho => S.holds o (hm o ho), fun o ho => S.blk o (hm o ho), ?_⟩
  rw [List.pairwise_filterMap]
  refine List.Pairwise.imp ?_ hi
  intro i j hij o ho o' ho' b hb hb'
  have hi' := List.getElem?_eq_some_iff.1 ho
  have hj' := List.getElem?_eq_some_iff.1 ho'
  obtain ⟨h1, rfl⟩ := hi'
  obtain ⟨h2, rfl⟩ := hj'
  have hp := List.pairwise_iff_getElem.1 S.apart
  rcases Nat.lt_or_gt_of_ne hij with hlt | hlt
  · exact hp i j h1 h2 hlt b hb hb'
  · exact hp j i h2 h1 hlt b hb' hb

/-- one step: the things 'A' are turned into 'A'', the rest stays -/
theorem Sep.step {B : List (Option Nat)} {n : Nat} {h h' : Heap} {A L A' : List Thing} (S : Sep B n h (A ++ L)) (hn : n ≤ h.size) (M : Mod (A.flatMap (·.blks)) h h') (T : Sep (A.flatMap (·.blks)) h.size h' A') : Sep B n h' (A' ++ L) := by
  have hap := List.pairwise_append.1 S.apart
  have inA : ∀ b, some b ∈ A.flatMap (·.blks) → ∃ o ∈ A, some b ∈ o.blks := by
    intro b hb
    obtain ⟨o, ho, e⟩ := List.mem_flatMap.1 hb
    exact ⟨o, ho, e⟩
  have notA : ∀ o ∈ L, ∀ b, some b ∈ o.blks → some b ∉ A.flatMap (·.blks) := by
    intro o ho b hb hm
    obtain ⟨o', ho', e⟩ := inA b hm
    exact hap.2.2 o' ho' o ho b e hb
  refine ⟨fun o ho => ?_, fun o ho b hb => ?_, ?_⟩
  · rcases List.mem_append.1 ho with ho | ho
    · exact T.holds o ho
    · have hL : o ∈ A ++ L := List.mem_append_right _ ho
      exact o.stable h h' M.size (fun b hb => M.same b (S.blk o hL b hb).1 (notA o ho b hb)) (S.holds o hL)
  · rcases List.mem_append.1 ho with ho | ho
    · obtain ⟨h1, h2⟩ := T.blk o ho b hb
      refine ⟨h1, ?_⟩
      rcases h2 with h2 | h2
      · exact .inl (Nat.le_trans hn h2)
      · obtain ⟨o', ho', e⟩ := inA b h2
        exact (S.blk o' (List.mem_append_left _ ho') b e).2
    · have hL : o ∈ A ++ L := List.mem_append_right _ ho
      exact ⟨Nat.lt_of_lt_of_le (S.blk o hL b hb).1 M.size, (S.blk o hL b hb).2⟩
  · refine List.pairwise_append.2 ⟨T.apart, hap.2.1, fun o ho o' ho' b hb hb' => ?_⟩
    rcases (T.blk o ho b hb).2 with h2 | h2
    · have := (S.blk o' (List.mem_append_right _ ho') b hb').1
      omega
    · exact notA o' ho' b hb' h2

theorem Mod.step {B : List (Option Nat)} {h0 h h' : Heap} {A L : List Thing} (X : Mod B h0 h) (S : Sep B h0.size h (A ++ L)) (M : Mod (A.flatMap (·.blks)) h h') : Mod B h0 h' := by
  refine ⟨Nat.le_trans X.size M.size, fun b hb hn => ?_⟩
  rw [M.same b (Nat.lt_of_lt_of_le hb X.size) ?_, X.same b hb hn]
  intro hm
  obtain ⟨o, ho, e⟩ := List.mem_flatMap.1 hm
  rcases (S.blk o (List.mem_append_left _ ho) b e).2 with h1 | h1
  · omega
  · exact hn h1

theorem Mod.lift {B : List (Option Nat)} {h0 h h' : Heap} (X : Mod B h0 h) (x : Ext h h') : Mod B h0 h' := X.trans (x.mod B)

section
variable {α : Type} {K : Kd α} {h0 h : Heap} {v : Value} {l : List α}
/-- what was handed in to be read only, in a later heap -/
theorem SL.mod {B : List (Option Nat)} {e : Nat} (H : SL K e h0 v l) (X : Mod B h0 h) (he : e ≤ h0.size) (hB : ∀ b, some b ∈ B → e ≤ b) : SL K e h v l := by
  have c : Chg (fun b => e ≤ b) h0 h := ⟨X.size, fun k hk hs => X.same k hk fun hm => hs (hB k hm)⟩
  exact H.chg c (fun b hb hs => by omega)
/-- and back -/
theorem SL.back {B : List (Option Nat)} {e : Nat} (H : SL K e h v l) (X : Mod B h0 h) (he : e ≤ h0.size) (hB : ∀ b, some b ∈ B → e ≤ b) : SL K e h0 v l := by
  obtain ⟨a, n, xs, hv, hr, hc⟩ := H
  refine ⟨a, n, xs, hv, hr, hc.imp id ?_⟩
  rintro ⟨p, hp, hsp, hb, hcell⟩
  refine ⟨p, hp, hsp, hb, fun j u hu => ?_⟩
  have hlt : (p.add j).block < e := by rw [addBlock]; exact hb
  have : h[(p.add j).block]? = h0[(p.add j).block]? := X.same _ (Nat.lt_of_lt_of_le hlt he) fun hm => by have := hB _ hm; omega
  exact (World.cell?_of_block (w := hw h) (w' := hw h0) this.symm).trans (hcell j u hu)
theorem Bx.mod {B : List (Option Nat)} {b : Nat} {cs : List Value} (H : Bx h0 b cs) (X : Mod B h0 h) (hB : some b ∉ B) : Bx h b cs := by
  have := H.lt
  obtain ⟨T, hT⟩ := H
  exact ⟨T, by rw [X.same b this hB]; exact hT⟩
end

/-! ### single operations -/
section
variable {P : Program} {φ : Fr} {h : Heap} {o : Oper} {α : Type} {K : Kd α}

def Made (h : Heap) (A : List Thing) (f : Value → List Thing) : Value → Heap → Prop := fun u h' => Mod (A.flatMap (·.blks)) h h' ∧ Sep (A.flatMap (·.blks)) h.size h' (f u)

theorem Own.zero {E : TypeId} {lo : Nat} {v : Value} {l : List α} (H : Own K E lo h v l) : Own K E 0 h v l := H.down (Nat.zero_le _)

theorem opS_lit0 {t E : TypeId} (ho : o.op = .buildSlice t 0 #[]) (ht : P.underlying t = some (.slice E)) (hinf : (P.info? E).isSome = true) :
    OpV P φ o h (Made h [] (fun u => [ownO K E u []])) :=
  (opv_lit0 (K := K) (lo := 0) ho ht hinf (Nat.zero_le _)).mono fun u h' ⟨h1, h2, h3, h4⟩ =>
    ⟨h2.mod _, Sep.one h1 (fun b hb => ⟨(h1.bounds b hb).2, .inl (h4 b hb)⟩)⟩

theorem opS_lit1 {t E : TypeId} {x : Operand} {u : Value} {z : α} {n b : Nat} {zz : Value} (ho : o.op = .buildSlice t 1 #[(0, x)]) (ht : P.underlying t = some (.slice E)) (hinf : elemInfo P E = some (zz, n, b)) (hn : n = 1) (hzz : zz.cells.size = 1) (hx : φ.ev x = some u) (h1 : K.size = 1) (hz : K.rel z [u]) :
    OpV P φ o h (Made h [] (fun v => [ownO K E v [z]])) :=
  (opv_lit1 ho ht hinf hn hzz hx (K.one z [u] hz u (by simp))).mono fun v h' ⟨g, hv, hg, hx, hs, hc⟩ => by
    subst hv
    have hown : Own K E 0 h' (.slice (some ⟨g, 0, none⟩) 1 1) [z] := by
      refine ⟨[u], ⟨by simp [h1], .inr ⟨g, 1, #[u], rfl, Nat.zero_le _, hc, Nat.le_refl _, by decide, by simp [h1], by simp [h1]⟩⟩, RelL.single hz⟩
    exact ⟨hx.mod _, Sep.one (x := some g) hown (fun b hb => by cases hb; exact ⟨by omega, .inl (by omega)⟩)⟩

theorem opS_append {t E : TypeId} {x y : Operand} {e : Nat} {v vy zz : Value} {l m : List α} {n b : Nat} (ho : o.op = .call { callee := .builtin .append, args := #[x, y], argTypes := #[t, t] }) (ht : P.underlying t = some (.slice E)) (hinf : elemInfo P E = some (zz, n, b)) (hn : n = K.size) (hzz : zz.cells.size = n)
    (hx : φ.ev x = some v) (hy : φ.ev y = some vy) (H : (ownO K E v l).holds h) (HY : SL K e h vy m) (hb : 0 < b) (hb2 : b ≤ 64) (hfit : l.length + m.length ≤ 1000000000) :
    OpV P φ o h (Made h [ownO K E v l] (fun u => [ownO K E u (l ++ m)])) :=
  (opv_append (lo := 0) ho ht hinf hn hzz hx hy H (Nat.zero_le _) HY (Nat.le_trans (Nat.mul_le_mul hfit hb2) (by decide)) hb).mono fun u h' ⟨h1, h2, h3⟩ =>
    ⟨Mod.of_chg h2, Sep.one h1 (fun k hk => ⟨(h1.bounds k hk).2, (h3 k hk).elim (fun e => .inr (by simp [ownO, e])) .inl⟩)⟩

theorem opS_make {t E : TypeId} {x y : Operand} {kl kc : IntKind} {n b : Nat} {m : Int} {zz : Value} {zx : α} {us : List Value} (ho : o.op = .makeSlice t x y) (ht : P.underlying t = some (.slice E)) (hinf : elemInfo P E = some (zz, n, b)) (hn : n = K.size) (hz : zz.cells.toList = us) (hr : K.rel zx us)
    (hx : φ.ev x = some (.int kl m)) (hy : φ.ev y = some (.int kc m)) (hb2 : b ≤ 64) (hm : 0 ≤ m ∧ m ≤ 1000000000) :
    OpV P φ o h (Made h [] (fun u => [ownO K E u (List.replicate m.toNat zx)])) :=
  (opv_make (lo := 0) ho ht hinf hn hz hr hx hy hm.1 (Nat.le_trans (Nat.mul_le_mul hb2 (show m.toNat ≤ 1000000000 by omega)) (by decide)) (by simp only [maxLen]; omega) (Nat.zero_le _)).mono fun u h' ⟨h1, h2, h3⟩ =>
    ⟨h2.mod _, Sep.one h1 (fun b hb => ⟨(h1.bounds b hb).2, .inl (h3 b hb)⟩)⟩

/-- one element written -/
def setF (l : List α) (n : Int) (z : α) : Option (List α) := if 0 ≤ n ∧ n.toNat < l.length then some (l.set n.toNat z) else none

theorem opS_storeE {t E : TypeId} {x y : Operand} {p u v : Value} {n : Int} {z : α} {l l' : List α} (ho : o.op = .store t x y) (ht : (P.info? t).map (·.size) = some 1) (h1 : K.size = 1) (hx : φ.ev x = some p) (hp : PtI 1 p v n.toNat) (hy : φ.ev y = some u) (hz : K.rel z [u]) (hs : setF l n z = some l') (H : (ownO K E v l).holds h) :
    OpV P φ o h (fun r h' => r = undef ∧ Made h [ownO K E v l] (fun _ => [ownO K E v l']) undef h') := by
  unfold setF at hs
  split at hs
  case isFalse => cases hs
  rename_i hi
  cases hs
  exact (opv_storeE ho ht h1 hx (by rw [h1]; exact hp) hy hz hi.2 H).mono fun r h' ⟨h2, h3, h4, h5⟩ =>
    ⟨h2, Mod.of_chg h4, Sep.one h3 (fun b hb => ⟨(h3.bounds b hb).2, .inr (by simp [ownO]; exact hb.symm)⟩)⟩

theorem opS_boxed {cs : List Value} (H : OpV P φ o h (Boxed h cs)) : OpV P φ o h (fun u h' => ∃ b, u = .pointer (some ⟨b, 0, none⟩) ∧ Made h [] (fun _ => [boxO b cs]) undef h') :=
  H.mono fun u h' ⟨b, hu, e, hx, hs, hw⟩ => ⟨b, hu, hx.mod _, Sep.one (o := boxO b cs) (x := some b) hw (fun k hk => by simp only [Option.some.injEq] at hk; subst hk; exact ⟨by omega, .inl (by omega)⟩)⟩
theorem opS_stored {cs cs' : List Value} {b : Nat} (H : OpV P φ o h (Stored h b cs')) (hb : (boxO b cs).holds h) : OpV P φ o h (fun u h' => u = undef ∧ Made h [boxO b cs] (fun _ => [boxO b cs']) undef h') :=
  H.mono fun u h' ⟨hu, hc, hs, hw⟩ => ⟨hu, ⟨hc.size, fun k hk hn => hc.blk k hk (fun e => hn (by simp [boxO, e]))⟩, Sep.one (o := boxO b cs') (x := some b) hw (fun k hk => by
    simp only [Option.some.injEq] at hk; subst hk; exact ⟨hw.lt, .inr (by simp [boxO])⟩)⟩

/-- a call's things, laid to what the caller has -/
theorem Sep.join {B : List (Option Nat)} {n : Nat} {h h' : Heap} {L A' : List Thing} (S : Sep B n h L) (hn : n ≤ h.size) (M : Mod [] h h') (T : Sep [] h.size h' A') : Sep B n h' (A' ++ L) :=
  Sep.step (A := []) S hn M T
end

theorem ownNil {α : Type} {K : Kd α} {E : TypeId} (h : Heap) : (ownO K E (.slice none 0 0) ([] : List α)).holds h := ⟨[], ⟨by simp, .inl ⟨rfl, rfl⟩⟩, rfl⟩
theorem ownO.read {α : Type} {K : Kd α} {E : TypeId} {v : Value} {l : List α} {h : Heap} (H : (ownO K E v l).holds h) : SL K h.size h v l := Own.read H (Nat.le_refl _)
theorem ownO.one {α : Type} {K : Kd α} {E : TypeId} {v : Value} {l : List α} {h : Heap} (H : (ownO K E v l).holds h) : v.oneCell' = true := (ownO.read H).one
theorem slNil {α : Type} {K : Kd α} (e : Nat) (h : Heap) : SL K e h (.slice none 0 0) ([] : List α) := ⟨none, 0, [], rfl, ⟨Nat.le_refl _, rfl⟩, .inl rfl⟩
theorem Sep.addNil {α : Type} {K : Kd α} {E : TypeId} {B : List (Option Nat)} {n : Nat} {h : Heap} {L : List Thing} (S : Sep B n h L) : Sep B n h (ownO K E (.slice none 0 0) ([] : List α) :: L) := by
  refine ⟨?_, ?_, List.pairwise_cons.2 ⟨?_, S.apart⟩⟩
  · intro o ho
    rcases List.mem_cons.1 ho with rfl | ho
    · exact ownNil h
    · exact S.holds o ho
  · intro o ho b hb
    rcases List.mem_cons.1 ho with rfl | ho
    · cases List.mem_singleton.1 hb
    · exact S.blk o ho b hb
  · intro o _ b hb
    cases List.mem_singleton.1 hb
theorem nob {e : Nat} : ∀ b, some b ∈ ([] : List (Option Nat)) → e ≤ b := by intro b hb; cases hb
theorem nobB {b : Nat} : some b ∉ ([] : List (Option Nat)) := by intro hb; cases hb
theorem of_ite {α : Type} {p : Prop} [Decidable p] {x : Option α} {r : α} (h : (if p then x else none) = some r) : p ∧ x = some r := by
  split at h
  · exact ⟨by assumption, h⟩
  · cases h
/-- the blocks of one's own things lie from 'lo' on -/
theorem Sep.ge {B : List (Option Nat)} {n lo : Nat} {h : Heap} {L : List Thing} (S : Sep B n h L) (hn : lo ≤ n) (hB : ∀ b, some b ∈ B → lo ≤ b) : ∀ b, some b ∈ L.flatMap (·.blks) → lo ≤ b := by
  intro b hb
  obtain ⟨o, ho, e⟩ := List.mem_flatMap.1 hb
  rcases (S.blk o ho b e).2 with h1 | h1
  · omega
  · exact hB b h1
theorem oneAll {u : Value} {us : List Value} (h : u.oneCell' = true) (t : us.all (·.oneCell') = true) : (u :: us).all (·.oneCell') = true := by
  rw [List.all_cons, t, Bool.and_true]; exact h
end Go.H

/- Regions that draw their order and make several things: what is made lies apart. -/
set_option linter.unusedVariables false
namespace Go.H
open Go

def nthB : List (Option (Value → List (Option Nat))) → Nat → Option (Value → List (Option Nat))
  | [], _ => none
  | b :: _, 0 => b
  | _ :: r, n + 1 => nthB r n

def blkB : Option (Value → List (Option Nat)) → Value → List (Option Nat)
  | none, _ => []
  | some f, v => f v

def Apt (x y : List (Option Nat)) : Prop := ∀ b, some b ∈ x → some b ∉ y

/-- what an operation of such a region gives -/
def KM : Option (Value → List (Option Nat)) → (Value → Heap → Prop) → Heap → Value → Heap → Prop
  | none, S, h, v, h' => Ext h h' ∧ S v h'
  | some B, S, h, v, h' => Ext h h' ∧ S v h' ∧ ∀ b, some b ∈ B v → h.size ≤ b ∧ b < h'.size

theorem KM.ext {B : Option (Value → List (Option Nat))} {S : Value → Heap → Prop} {h : Heap} {v : Value} {h' : Heap} (H : KM B S h v h') : Ext h h' := by cases B <;> exact H.1
theorem KM.val {B : Option (Value → List (Option Nat))} {S : Value → Heap → Prop} {h : Heap} {v : Value} {h' : Heap} (H : KM B S h v h') : S v h' := by
  cases B with
  | none => exact H.2
  | some B => exact H.2.1
theorem KM.new {B : Option (Value → List (Option Nat))} {S : Value → Heap → Prop} {h : Heap} {v : Value} {h' : Heap} (H : KM B S h v h') : ∀ b, some b ∈ blkB B v → h.size ≤ b ∧ b < h'.size := by
  cases B with
  | none => intro b hb; cases hb
  | some B => exact H.2.2

/-- an operation's value that is a part of another one's -/
def nthL : List (Option (Nat × (Value → Value))) → Nat → Option (Nat × (Value → Value))
  | [], _ => none
  | b :: _, 0 => b
  | _ :: r, n + 1 => nthL r n

def KL (L : Option (Nat × (Value → Value))) (φ : Fr) (K : Value → Heap → Prop) : Value → Heap → Prop :=
  match L with
  | none => K
  | some (d, f) => fun v h => K v h ∧ ∃ u, φ.get d = some u ∧ v = f u

theorem KL.fst {L : Option (Nat × (Value → Value))} {φ : Fr} {K : Value → Heap → Prop} {v : Value} {h : Heap} (H : KL L φ K v h) : K v h := by
  cases L with
  | none => exact H
  | some p => exact H.1
theorem KL.snd {L : Option (Nat × (Value → Value))} {φ : Fr} {K : Value → Heap → Prop} {v : Value} {h : Heap} (H : KL L φ K v h) {d : Nat} {f : Value → Value} (hl : L = some (d, f)) : ∃ u, φ.get d = some u ∧ v = f u := by
  subst hl; exact H.2

def StepsM (P : Program) (ops : List Oper) (φ : Fr) (h : Heap) (S : Nat → Value → Heap → Prop) (Bl : List (Option (Value → List (Option Nat)))) (Ll : List (Option (Nat × (Value → Value)))) : Nat → List (List Nat) → List Oper → Prop
  | _, [], _ => True
  | i, ds :: dr, o :: r =>
    (ds.all (fun j => (depsOf ops i).contains j) = true ∧ ∀ h', Ext h h' → Dep ops S h' ds φ (fun φ' => GuardOK P ops φ' o h' (KL (nthL Ll i) φ' (KM (nthB Bl i) (S i) h')))) ∧
    StepsM P ops φ h S Bl Ll (i + 1) dr r
  | _, _ :: _, [] => False

theorem StepsM.nth {P : Program} {ops : List Oper} {φ : Fr} {h : Heap} {S : Nat → Value → Heap → Prop} {Bl : List (Option (Value → List (Option Nat)))} {Ll : List (Option (Nat × (Value → Value)))} :
    ∀ {i : Nat} {dl : List (List Nat)} {l : List Oper}, StepsM P ops φ h S Bl Ll i dl l → ∀ k ds, dl[k]? = some ds →
      ∃ o, l[k]? = some o ∧ ds.all (fun j => (depsOf ops (i + k)).contains j) = true ∧ ∀ h', Ext h h' → Dep ops S h' ds φ (fun φ' => GuardOK P ops φ' o h' (KL (nthL Ll (i + k)) φ' (KM (nthB Bl (i + k)) (S (i + k)) h')))
  | _, [], _, _, k, ds, hk => by simp at hk
  | i, ds :: dr, o :: r, H, 0, ds', hk => by
    simp only [List.getElem?_cons_zero, Option.some.injEq] at hk
    subst hk
    exact ⟨o, rfl, H.1.1, H.1.2⟩
  | i, ds :: dr, o :: r, H, k + 1, ds', hk => by
    obtain ⟨o', h1, h2, h3⟩ := StepsM.nth H.2 k ds' (by simpa using hk)
    have e : i + 1 + k = i + (k + 1) := by omega
    rw [e] at h2 h3
    exact ⟨o', by simpa using h1, h2, h3⟩
  | _, _ :: _, [], H, _, _, _ => H.elim

def DepM (ops : List Oper) (S : Nat → Value → Heap → Prop) (Bl : List (Option (Value → List (Option Nat)))) (h : Heap) : List Nat → Fr → List (List (Option Nat)) → (Fr → List (List (Option Nat)) → Prop) → Prop
  | [], φ, acc, K => K φ acc
  | j :: js, φ, acc, K => match dstOf ops j with
    | some d => ∀ v, S j v h → DepM ops S Bl h js ((d, v) :: φ) (blkB (nthB Bl j) v :: acc) K
    | none => DepM ops S Bl h js φ acc K

theorem DepM.nil {ops : List Oper} {S : Nat → Value → Heap → Prop} {Bl : List (Option (Value → List (Option Nat)))} {h : Heap} {φ : Fr} {acc : List (List (Option Nat))} {K : Fr → List (List (Option Nat)) → Prop} (H : K φ acc) : DepM ops S Bl h [] φ acc K := H

def nodupB : List Nat → Bool
  | [] => true
  | j :: js => !js.contains j && nodupB js
theorem nodupB_spec : ∀ {l : List Nat}, nodupB l = true → l.Nodup
  | [], _ => List.nodup_nil
  | j :: js, h => by
    unfold nodupB at h
    rw [Bool.and_eq_true] at h
    exact List.nodup_cons.2 ⟨by simpa using h.1, nodupB_spec h.2⟩

section
variable {P : Program} {N : Nat} {Q : Exit → Fr → Heap → Prop} {ops : List Oper}

/-- a link's source is an operation that it waits for -/
def linksOK (ops : List Oper) (Ll : List (Option (Nat × (Value → Value)))) (nb : Nat) : Bool :=
  (List.range nb).all fun i => match nthL Ll i with
    | none => true
    | some (d, _) => (depsOf ops i).any fun j => decide (j < nb) && dstOf ops j == some d

structure InvM (Bl : List (Option (Value → List (Option Nat)))) (Ll : List (Option (Nat × (Value → Value)))) (N : Nat) (ops : List Oper) (nb : Nat) (S : Nat → Value → Heap → Prop) (φ : Fr) (h : Heap) (w0 : World) (listed : Array Bool) (a : Act) (w : World) : Prop where
  inv : Inv Ext N ops nb S φ h w0 listed a w
  low : ∀ i d v, listed.getD i false = true → dstOf ops i = some d → a.tmps[d]? = some v → ∀ b, some b ∈ blkB (nthB Bl i) v → b < w.heap.size
  apart : ∀ i j d e v u, i ≠ j → listed.getD i false = true → listed.getD j false = true → dstOf ops i = some d → dstOf ops j = some e → a.tmps[d]? = some v → a.tmps[e]? = some u → Apt (blkB (nthB Bl i) v) (blkB (nthB Bl j) u)
  link : ∀ i d f e v, listed.getD i false = true → nthL Ll i = some (d, f) → dstOf ops i = some e → a.tmps[e]? = some v → ∃ u, a.tmps[d]? = some u ∧ v = f u

/-- the blocks told so far are those of listed operations, none of 'js' -/
def AccOK (Bl : List (Option (Value → List (Option Nat)))) (ops : List Oper) (listed : Array Bool) (a : Act) (done : List Nat) (acc : List (List (Option Nat))) : Prop :=
  ∀ x ∈ acc, ∃ i d v, i ∈ done ∧ listed.getD i false = true ∧ dstOf ops i = some d ∧ a.tmps[d]? = some v ∧ x = blkB (nthB Bl i) v

theorem DepM.run {Bl : List (Option (Value → List (Option Nat)))} {Ll : List (Option (Nat × (Value → Value)))} {S : Nat → Value → Heap → Prop} {w0 : World} {nb : Nat} {φ : Fr} {h : Heap} {listed : Array Bool} {a : Act} {w : World} (I : InvM Bl Ll N ops nb S φ h w0 listed a w) :
    ∀ (js : List Nat) (ψ : Fr) (acc : List (List (Option Nat))) (K : Fr → List (List (Option Nat)) → Prop) (done : List Nat), (∀ j ∈ js, listed.getD j false = true) → js.Nodup → (∀ j ∈ js, j ∉ done) → AccOK Bl ops listed a done acc ∧ acc.Pairwise Apt → Ok N ψ a → DepM ops S Bl w.heap js ψ acc K → ∃ ψ' acc', Ok N ψ' a ∧ acc'.Pairwise Apt ∧ K ψ' acc'
  | [], ψ, acc, _, _, _, _, _, ha, ho, H => ⟨ψ, acc, ho, ha.2, H⟩
  | j :: js, ψ, acc, K, done, hj, hnd, hdn, ha, ho, H => by
    unfold DepM at H
    obtain ⟨hn1, hn2⟩ := List.nodup_cons.1 hnd
    cases hd : dstOf ops j with
    | none =>
      rw [hd] at H
      exact DepM.run I js ψ acc K done (fun k hk => hj k (List.mem_cons_of_mem _ hk)) hn2 (fun k hk => hdn k (List.mem_cons_of_mem _ hk)) ha ho H
    | some d =>
      rw [hd] at H
      have hjl := hj j (List.mem_cons_self ..)
      obtain ⟨v, h1, h2⟩ := I.inv.vals j d hjl hd
      refine DepM.run I js ((d, v) :: ψ) _ K (j :: done) (fun k hk => hj k (List.mem_cons_of_mem _ hk)) hn2 (fun k hk hm => ?_) ⟨?_, ?_⟩ ⟨ho.defers, ho.size, fun t u ht => ?_⟩ (H v h2)
      · rcases List.mem_cons.1 hm with rfl | hm
        · exact hn1 hk
        · exact hdn k (List.mem_cons_of_mem _ hk) hm
      · intro x hx
        rcases List.mem_cons.1 hx with rfl | hx
        · exact ⟨j, d, v, List.mem_cons_self .., hjl, hd, h1, rfl⟩
        · obtain ⟨i, e, u, g1, g2⟩ := ha.1 x hx
          exact ⟨i, e, u, List.mem_cons_of_mem _ g1, g2⟩
      · refine List.pairwise_cons.2 ⟨fun x hx => ?_, ha.2⟩
        obtain ⟨i, e, u, g1, g2, g3, g4, rfl⟩ := ha.1 x hx
        exact I.apart j i d e v u (fun e => hdn j (List.mem_cons_self ..) (e ▸ g1)) hjl g2 hd g3 h1 g4
      · simp only [Fr.get] at ht
        cases hb : Nat.beq d t with
        | true =>
          rw [hb] at ht
          simp only [cond_true, Option.some.injEq] at ht
          rw [← Nat.eq_of_beq_eq_true hb, ← ht]; exact h1
        | false => rw [hb] at ht; exact ho.slot t u ht

theorem InvM.put {Bl : List (Option (Value → List (Option Nat)))} {Ll : List (Option (Nat × (Value → Value)))} {S : Nat → Value → Heap → Prop} {w0 : World} {nb : Nat} {φ : Fr} {h : Heap} {listed : Array Bool} {a : Act} {w : World} (I : InvM Bl Ll N ops nb S φ h w0 listed a w)
    (hB : bodyOK N ops nb = true) (hφ : clearB ops nb φ = true) (hst : ∀ i v h h', S i v h → Ext h h' → S i v h')
    {i : Nat} (hi : i < nb) (hun : listed.getD i false = false) {o : Oper} (ho : ops[i]? = some o) (hde : ∀ e ∈ depsOf ops i, listed.getD e false = true) {v : Value} {w' : World} (hs : Same w0 w') {ψ : Fr} (hψ : Ok N ψ a) (hLn : linksOK ops Ll nb = true) (hkl : KL (nthL Ll i) ψ (KM (nthB Bl i) (S i) w.heap) v w'.heap) :
    InvM Bl Ll N ops nb S φ h w0 (listed.setIfInBounds i true) (a.put o.dst v) w' := by
  obtain ⟨o', d, ho', hd, hdN, _, huniq⟩ := body_spec hB hi
  rw [ho] at ho'
  cases ho'
  have hdi : dstOf ops i = some d := by simp [dstOf, ho, hd]
  have hk := hkl.fst
  have hI := I.inv.put Pre.ext hB hφ hst hi ho hde hs hk.ext hk.val
  rw [hd] at hI ⊢
  have hnew := hk.new
  have hsz := hk.ext.size
  -- what a listed operation's slot holds
  have same : ∀ k e u, k ≠ i → (listed.setIfInBounds i true).getD k false = true → dstOf ops k = some e → (a.put (some d) v).tmps[e]? = some u → listed.getD k false = true ∧ a.tmps[e]? = some u := by
    intro k e u hki hk' hke hu
    have hk2 : listed.getD k false = true := by simpa [Array.getElem?_setIfInBounds_ne (Ne.symm hki)] using hk'
    have hkn : k < nb := by
      rcases Nat.lt_or_ge k nb with h | h
      · exact h
      · have := I.inv.notail k h; rw [this] at hk2; cases hk2
    have hne : d ≠ e := fun x => huniq k hkn hki (x ▸ hke)
    exact ⟨hk2, by simpa [Act.put, Array.getElem?_setIfInBounds_ne hne] using hu⟩
  have self : ∀ e u, dstOf ops i = some e → (a.put (some d) v).tmps[e]? = some u → u = v := by
    intro e u he hu
    rw [hdi] at he
    cases he
    have : d < a.tmps.size := by rw [I.inv.size]; exact hdN
    simp [Act.put, this] at hu
    exact hu.symm
  refine ⟨hI, fun k e u hk' hke hu b hb => ?_, fun k m e g u x hne hk' hm' hke hmg hu hx => ?_, fun k q f e u hk' hL hke hu => ?_⟩
  · by_cases hki : k = i
    · subst hki
      obtain rfl := self e u hke hu
      exact (hnew b hb).2
    · obtain ⟨h1, h2⟩ := same k e u hki hk' hke hu
      have := I.low k e u h1 hke h2 b hb
      omega
  · by_cases hki : k = i
    · subst hki
      obtain rfl := self e u hke hu
      obtain ⟨h1, h2⟩ := same m g x (Ne.symm hne) hm' hmg hx
      intro b hb hb'
      have := I.low m g x h1 hmg h2 b hb'
      have := (hnew b hb).1
      omega
    · obtain ⟨h1, h2⟩ := same k e u hki hk' hke hu
      by_cases hmi : m = i
      · subst hmi
        obtain rfl := self g x hmg hx
        intro b hb hb'
        have := I.low k e u h1 hke h2 b hb
        have := (hnew b hb').1
        omega
      · obtain ⟨h3, h4⟩ := same m g x hmi hm' hmg hx
        exact I.apart k m e g u x hne h1 h3 hke hmg h2 h4
  · -- a link
    have hkn : k < nb := by
      rcases Nat.lt_or_ge k nb with h | h
      · exact h
      · have h1 := I.inv.notail k h
        by_cases hki : i = k
        · omega
        · rw [Array.getD_eq_getD_getElem?, Array.getElem?_setIfInBounds_ne hki, ← Array.getD_eq_getD_getElem?, h1] at hk'; cases hk'
    have hsrc := List.all_eq_true.1 hLn k (by simpa using hkn)
    rw [hL] at hsrc
    obtain ⟨j, hjd, hjb⟩ := List.any_eq_true.1 hsrc
    simp only [Bool.and_eq_true, decide_eq_true_eq, beq_iff_eq] at hjb
    by_cases hki : k = i
    · subst hki
      obtain rfl := self e u hke hu
      obtain ⟨x, hx1, hx2⟩ := hkl.snd hL
      have hne : d ≠ q := by
        intro hdq
        subst hdq
        -- the source is another operation
        by_cases hjk : j = k
        · subst hjk
          have h0 := hde j hjd
          have := (body_spec hB hi)
          obtain ⟨_, _, _, _, _, hlt, _⟩ := this
          have := hlt j hjd
          omega
        · exact huniq j hjb.1 hjk hjb.2
      refine ⟨x, ?_, hx2⟩
      have := hψ.slot q x hx1
      simpa [Act.put, Array.getElem?_setIfInBounds_ne hne] using this
    · obtain ⟨h1, h2⟩ := same k e u hki hk' hke hu
      obtain ⟨x, hx1, hx2⟩ := I.link k q f e u h1 hL hke h2
      have hjl := I.inv.down k h1 j hjd
      have hne : d ≠ q := by
        intro hdq
        subst hdq
        by_cases hji : j = i
        · subst hji
          have hlt : e < a.tmps.size := (Array.getElem?_eq_some_iff.1 h2).1
          exact absurd hjl (by rw [hun]; decide)
        · exact huniq j hjb.1 hji hjb.2
      exact ⟨x, by simpa [Act.put, Array.getElem?_setIfInBounds_ne hne] using hx1, hx2⟩

theorem body_anyM {Bl : List (Option (Value → List (Option Nat)))} {Ll : List (Option (Nat × (Value → Value)))} {dl : List (List Nat)} {Sl : List (Value → Heap → Prop)} {φ : Fr} {h : Heap} {w0 : World} {Qw : Exit → Act → World → Prop}
    (hB : bodyOK N ops dl.length = true) (hT : tailOK ops dl.length = true) (hφ : clearB ops dl.length φ = true) (hln : dl.length ≤ ops.length)
    (stable : StableL Ext Sl) (steps : StepsM P ops φ h (nthS Sl) Bl Ll 0 dl ops) (hLn : linksOK ops Ll dl.length = true)
    (fin' : ∀ listed a w, InvM Bl Ll N ops dl.length (nthS Sl) φ h w0 listed a w → (∀ i, i < dl.length → listed.getD i false = true) → wpList P ops.toArray Qw (ops.drop dl.length) a w) :
    ∀ (m : Nat) (listed : Array Bool) (a : Act) (w : World), cnt listed.toList = m → InvM Bl Ll N ops dl.length (nthS Sl) φ h w0 listed a w → wpAny P .any ops.toArray Qw m listed a w := by
  intro m
  induction m with
  | zero =>
    intro listed a w hc I
    have hall : ∀ i, i < ops.length → listed.getD i false = true := fun i hi => by
      have := cnt_zero hc i (by simpa [I.inv.len] using hi)
      have : listed[i]? = some true := by simpa using this
      simp [this]
    refine tail_any hT Qw 0 ops.length listed a w hln (by omega) I.inv.len (fun i hi => ⟨fun _ => by have := I.inv.len; omega, fun _ => hall i (by have := I.inv.len; omega)⟩) I.inv.down ?_
    have := fin' listed a w I (fun i hi => hall i (by omega))
    rcases Nat.lt_or_ge dl.length ops.length with hlt | hge
    · have h1 := I.inv.notail dl.length (Nat.le_refl _)
      rw [hall _ hlt] at h1; cases h1
    · rw [List.drop_eq_nil_of_le hge] at this
      rw [List.drop_eq_nil_of_le (Nat.le_refl _)]
      exact this
  | succ m ih =>
    intro listed a w hc I
    by_cases hall : ∀ i, i < dl.length → listed.getD i false = true
    · have hu : Upto dl.length listed := by
        intro i _
        refine ⟨fun h1 => ?_, hall i⟩
        rcases Nat.lt_or_ge i dl.length with h | h
        · exact h
        · have := I.inv.notail i h
          rw [this] at h1
          cases h1
      have hm : dl.length + (m + 1) = ops.length := by
        have hsplit : cnt listed.toList = ops.length - dl.length := by
          have e : listed.toList = List.replicate dl.length true ++ List.replicate (ops.length - dl.length) false := by
            refine List.ext_getElem? fun i => ?_
            rcases Nat.lt_or_ge i ops.length with hi | hi
            · have hsz : i < listed.size := by rw [I.inv.len]; exact hi
              rcases Nat.lt_or_ge i dl.length with h | h
              · have := hall i h
                simp only [hsz, Array.getD_eq_getD_getElem?, Array.getElem?_eq_getElem, Option.getD_some] at this
                simp [List.getElem?_append, h, hsz, this]
              · have := I.inv.notail i h
                simp only [hsz, Array.getD_eq_getD_getElem?, Array.getElem?_eq_getElem, Option.getD_some] at this
                rw [List.getElem?_append_right (by simpa using h)]
                simp only [Array.getElem?_toList, hsz, Array.getElem?_eq_getElem, this, List.length_replicate, List.getElem?_replicate]
                rw [if_pos (by omega)]
            · have hsz : ¬ i < listed.size := by rw [I.inv.len]; omega
              rw [List.getElem?_eq_none (by simp; omega), List.getElem?_eq_none (by simp; omega)]
          rw [e]
          simp [cnt, List.count_append, List.count_replicate]
        omega
      exact tail_any hT Qw (m + 1) dl.length listed a w (Nat.le_refl _) hm I.inv.len hu I.inv.down (fin' listed a w I hall)
    · have hne : ∃ i, i < dl.length ∧ listed.getD i false = false ∧ ∀ k, k < i → listed.getD k false = true := by
        have hex : ∃ i, i < dl.length ∧ listed.getD i false = false := by
          refine Classical.byContradiction fun hno => hall fun i hi => ?_
          cases hb : listed.getD i false with
          | true => rfl
          | false => exact absurd ⟨i, hi, hb⟩ hno
        obtain ⟨i, hi⟩ := hex
        induction i using Nat.strongRecOn with
        | _ i ihi =>
          by_cases hk : ∀ k, k < i → listed.getD k false = true
          · exact ⟨i, hi.1, hi.2, hk⟩
          · have : ∃ k, k < i ∧ listed.getD k false = false := by
              refine Classical.byContradiction fun hno => hk fun k hki => ?_
              cases hb : listed.getD k false with
              | true => rfl
              | false => exact absurd ⟨k, hki, hb⟩ hno
            obtain ⟨k, hki, hkf⟩ := this
            exact ihi k hki ⟨by omega, hkf⟩
      obtain ⟨i0, hi0, hf0, hlow⟩ := hne
      obtain ⟨o0, d0, ho0, _, _, hdep0, _⟩ := body_spec hB hi0
      have hi0l : i0 < ops.length := (List.getElem?_eq_some_iff.1 ho0).1
      have hr0 : i0 ∈ Region.ready .any ops.toArray listed := ready_of (by
        have : i0 < listed.size := by rw [I.inv.len]; exact hi0l
        simp only [this, Array.getD_eq_getD_getElem?, Array.getElem?_eq_getElem, Option.getD_some] at hf0 ⊢; exact hf0) hi0l (fun e he => hlow e (hdep0 e he))
      refine ⟨fun h => (by rw [h] at hr0; cases hr0), fun i hi => ?_⟩
      obtain ⟨h1, h2, h3⟩ := ready_deps hi
      have hib : i < dl.length := by
        refine Classical.byContradiction fun hge => ?_
        have hTi := List.all_eq_true.1 hT (i - dl.length) (by simp; omega)
        rw [show dl.length + (i - dl.length) = i from by omega, Bool.and_eq_true] at hTi
        have := List.all_eq_true.1 hTi.2 i0 (by simp; omega)
        have := closeDown_listed I.inv.down i (depsOf ops i) h3 i0 (by simpa using this)
        rw [hf0] at this; cases this
      obtain ⟨o, d, ho, hd, hdN, _, _⟩ := body_spec hB hib
      obtain ⟨o', ho', hsub, hstep⟩ := steps.nth i dl[i] (List.getElem?_eq_getElem hib)
      rw [ho] at ho'
      cases ho'
      simp only [Nat.zero_add] at hsub hstep
      have hokφ : Ok N φ a := ⟨I.inv.defers, I.inv.size, I.inv.base⟩
      obtain ⟨ψ, hψ, hG⟩ := Dep.run I.inv dl[i] φ _ (fun j hj => h3 j (by simpa using List.all_eq_true.1 hsub j hj)) hokφ (hstep w.heap I.inv.ext)
      have hcn : cnt (listed.setIfInBounds i true).toList = m := by
        have hlt : i < listed.size := by rw [I.inv.len]; exact h2
        have hfl : listed.toList[i]? = some false := by
          simp only [hlt, Array.getD_eq_getD_getElem?, Array.getElem?_eq_getElem, Option.getD_some] at h1
          simp [hlt, h1]
        have := cnt_set listed.toList i hfl
        rw [Array.toList_setIfInBounds]
        omega
      have hun : listed.getD i false = false := by
        have hlt : i < listed.size := by rw [I.inv.len]; exact h2
        simp only [hlt, Array.getD_eq_getD_getElem?, Array.getElem?_eq_getElem, Option.getD_some] at h1 ⊢
        exact h1
      have next : ∀ v w', Same w0 w' → KL (nthL Ll i) ψ (KM (nthB Bl i) (nthS Sl i) w.heap) v w'.heap → wpAny P .any ops.toArray Qw m (listed.setIfInBounds i true) (a.put o.dst v) w' := fun v w' hs hk =>
        ih _ _ _ hcn (I.put hB hφ (fun k _ _ _ => stable.nth k) hib hun ho h3 hs hψ hLn hk)
      unfold wpOp
      have ho2 : ops.toArray[i]? = some o := by simpa using ho
      rw [ho2]
      simp only
      unfold GuardOK at hG
      cases hg : o.guard with
      | none =>
        rw [hg] at hG
        rw [if_pos (by simp [Region.wanted, hg])]
        exact .inl (OpV.wp hG hψ rfl I.inv.same fun v w' hs hk => next v w' hs hk)
      | some gw =>
        obtain ⟨j, want⟩ := gw
        rw [hg] at hG
        simp only at hG
        cases hdj : dstOf ops j with
        | none => rw [hdj] at hG; exact hG.elim
        | some t =>
          rw [hdj] at hG
          rcases hG with ⟨b, hb, hyes, hno⟩ | ⟨hu, hK⟩
          case inr =>
            have hy : yielded ops.toArray a.tmps j = none := by
              unfold yielded
              have : (ops.toArray[j]?).bind (·.dst) = some t := by simpa [dstOf] using hdj
              rw [this]
              simp [hψ.slot t _ hu, undef]
            rw [if_neg (by simp [Region.wanted, hg, hy])]
            exact next undef w I.inv.same hK
          have hy : yielded ops.toArray a.tmps j = some b := by
            unfold yielded
            have : (ops.toArray[j]?).bind (·.dst) = some t := by simpa [dstOf] using hdj
            rw [this]
            simp [hψ.slot t _ hb]
          by_cases hbw : b = want
          · rw [if_pos (by simp [Region.wanted, hg, hy, hbw])]
            exact .inl (OpV.wp (hyes hbw) hψ rfl I.inv.same fun v w' hs hk => next v w' hs hk)
          · rw [if_neg (by simp [Region.wanted, hg, hy, hbw])]
            exact next undef w I.inv.same (hno hbw)

theorem W.regionM {id : Nat} {φ : Fr} {h : Heap} (Sl : List (Value → Heap → Prop)) (Bl : List (Option (Value → List (Option Nat)))) (Ll : List (Option (Nat × (Value → Value)))) (dl : List (List Nat)) (js : List Nat) (hm : P.follows .mixedOrders = true)
    (hB : bodyOK N ops dl.length = true) (hT : tailOK ops dl.length = true) (hφ : clearB ops dl.length φ = true) (hjs : js.all (fun j => decide (j < dl.length)) = true) (hnd : nodupB js = true) (hLn : linksOK ops Ll dl.length = true) (hln : Nat.ble dl.length ops.length = true)
    (stable : StableL Ext Sl) (steps : StepsM P ops φ h (nthS Sl) Bl Ll 0 dl ops)
    (fin : ∀ h', Ext h h' → DepM ops (nthS Sl) Bl h' js φ [] (fun φ' acc => acc.Pairwise Apt → (∀ i d f e v u, i ∈ js → nthL Ll i = some (d, f) → dstOf ops i = some e → φ'.get e = some v → φ'.get d = some u → v = f u) → RL P N ops.toArray Q (ops.drop dl.length) φ' h')) : W P N (.region id ops.toArray true) Q φ h := by
  intro w0 a w hs hw ho
  have hl := Nat.le_of_ble_eq_true hln
  refine wp_region_any hm (body_anyM (Bl := Bl) (Ll := Ll) (w0 := w0) (h := h) hB hT hφ hl stable steps hLn ?_ _ _ _ _ ?_ ?_)
  · intro listed a' w' I hall
    have hnl : ∀ j ∈ js, listed.getD j false = true := fun j hj => hall j (of_decide_eq_true (List.all_eq_true.1 hjs j hj))
    obtain ⟨ψ, acc, hψ, hpw, hG⟩ := DepM.run I js φ [] _ [] hnl (nodupB_spec hnd) (by simp) (by simp [AccOK]) ⟨I.inv.defers, I.inv.size, I.inv.base⟩ (fin w'.heap I.inv.ext)
    refine hG hpw (fun i d f e v u hi hL hd hv hu => ?_) w0 a' w' I.inv.same rfl hψ
    obtain ⟨x, hx1, hx2⟩ := I.link i d f e v (hnl i hi) hL hd (hψ.slot e v hv)
    have := hψ.slot d u hu
    rw [hx1] at this
    cases this
    exact hx2
  · simp [cnt]
  · refine ⟨⟨ho.defers, ho.size, hs.trans (Same.drawn ..), by show Ext h w.heap; rw [hw]; exact Ext.refl _, by simp, fun i hi => by
      by_cases hlt : i < ops.length <;> simp [hlt] at hi, fun i _ => by
      by_cases hlt : i < ops.length <;> simp [hlt], fun i d hi => by
      by_cases hlt : i < ops.length <;> simp [hlt] at hi, ho.slot⟩, fun i d v hi => by
      by_cases hlt : i < ops.length <;> simp [hlt] at hi, fun i j d e v u _ hi => by
      by_cases hlt : i < ops.length <;> simp [hlt] at hi, fun i d f e v hi => by
      by_cases hlt : i < ops.length <;> simp [hlt] at hi⟩
end

/-- what an operation made is new -/
theorem Sep.fresh {h h' : Heap} {A : List Thing} (T : Sep [] h.size h' A) : ∀ b, some b ∈ A.flatMap (·.blks) → h.size ≤ b ∧ b < h'.size := by
  intro b hb
  obtain ⟨o, ho, e⟩ := List.mem_flatMap.1 hb
  obtain ⟨h1, h2⟩ := T.blk o ho b e
  exact ⟨h2.elim id (fun h => by cases h), h1⟩
/-- two that lie apart -/
theorem Sep.both {n : Nat} {h : Heap} {A A' : List Thing} (S : Sep [] n h A) (T : Sep [] n h A') (hap : Apt (A.flatMap (·.blks)) (A'.flatMap (·.blks))) : Sep [] n h (A ++ A') := by
  refine ⟨fun o ho => ?_, fun o ho => ?_, List.pairwise_append.2 ⟨S.apart, T.apart, fun o ho o' ho' b hb hb' => hap b (List.mem_flatMap.2 ⟨o, ho, hb⟩) (List.mem_flatMap.2 ⟨o', ho', hb'⟩)⟩⟩
  · rcases List.mem_append.1 ho with ho | ho
    · exact S.holds o ho
    · exact T.holds o ho
  · rcases List.mem_append.1 ho with ho | ho
    · exact S.blk o ho
    · exact T.blk o ho
theorem Apt.cat {x y z : List (Option Nat)} (h : Apt x z) (k : Apt y z) : Apt (x ++ y) z := fun b hb => (List.mem_append.1 hb).elim (h b) (k b)
theorem Apt.cat' {x y z : List (Option Nat)} (h : Apt z x) (k : Apt z y) : Apt z (x ++ y) := fun b hb hb' => (List.mem_append.1 hb').elim (h b hb) (k b hb)
theorem Apt.symm {x y : List (Option Nat)} (h : Apt x y) : Apt y x := fun b hb hb' => h b hb' hb
theorem Apt.of {l : List (List (Option Nat))} (h : l.Pairwise Apt) (i j : Nat) {x y : List (Option Nat)} (hi : l[i]? = some x) (hj : l[j]? = some y) (hij : i < j) : Apt x y := by
  obtain ⟨h1, rfl⟩ := List.getElem?_eq_some_iff.1 hi
  obtain ⟨h2, rfl⟩ := List.getElem?_eq_some_iff.1 hj
  exact List.pairwise_iff_getElem.1 h i j h1 h2 hij
def vget : Value → Nat → Value
  | .tuple xs, i => xs.getD i undef
  | .agg xs, i => xs.getD i undef
  | _, _ => undef
def ptrB : Value → Option Nat
  | .pointer (some p) => some p.block
  | _ => none
theorem freshNil {h h' : Heap} {v : Value} : ∀ b, some b ∈ ([none] : List (Option Nat)) → h.size ≤ b ∧ b < h'.size := by intro b hb; simp at hb
end Go.H

/- Functions as values; structs that are built; literals. -/
set_option linter.unusedVariables false
namespace Go.H
open Go

section
variable {P : Program} {φ : Fr} {h : Heap} {o : Oper}

theorem opv_makeFunc {f : FuncId} {xs : List Operand} {vs : List Value} (ho : o.op = .makeFunc (.func f) #[] xs.toArray) (hx : φ.evs xs vs) : OpV P φ o h (Det (.func (.func f) #[] vs.toArray) h) := by
  intro a w hev hw
  have hm : xs.map a.eval = vs := Fr.evs_map hev hx
  have hm' : xs.toArray.map a.eval = vs.toArray := by simp [hm]
  refine .inl ⟨_, w, ?_, Same.refl w, rfl, hw.symm⟩
  simp [execOp, ho, Instr.makeFunc, hm']

theorem opv_nilCheckF {x : Operand} {f : FuncId} {fs cs : Array Value} (ho : o.op = .nilCheck x) (hx : φ.ev x = some (.func (.func f) fs cs)) : OpV P φ o h (Det (.func (.func f) fs cs) h) := by
  intro a' w hev hw'
  exact .inl ⟨_, w, by simp [execOp, ho, hev x _ hx], Same.refl w, rfl, hw'.symm⟩

/-- the zero's cells of a struct, and where its fields lie -/
def bldInfo (P : Program) (t : TypeId) : Option (List Value × List (Nat × Nat)) :=
  match P.info? t, P.underlying t with
  | some it, some (.struct fields) =>
    match it.zero, fields.toList.mapM (fun f => (P.info? f.type).map fun i => (f.offset, i.size)) with
    | some z, some places => some (z.cells.toList, places)
    | _, _ => none
  | _, _ => none

def putL : List Value → Nat → List Value → List Value
  | cs, _, [] => cs
  | cs, n, u :: us => putL (cs.set n u) (n + 1) us

def fillL (places : List (Nat × Nat)) : List Value → List (Nat × List Value) → Option (List Value)
  | cs, [] => some cs
  | cs, (i, us) :: r => match places[i]? with
    | none => none
    | some (off, size) => bif Nat.beq us.length size && Nat.ble (off + us.length) cs.length then fillL places (putL cs off us) r else none

def partsOK (φ : Fr) : List (Nat × Operand) → List (Nat × List Value) → List (Nat × Value) → Prop
  | [], [], [] => True
  | (i, x) :: xs, (j, us) :: r, (k, v) :: vs => (φ.ev x = some v ∧ i = j ∧ i = k ∧ v.cells = us.toArray) ∧ partsOK φ xs r vs
  | _, _, _ => False

theorem cells1 {v : Value} (h : v.oneCell' = true) : v.cells = [v].toArray := by cases v <;> first | rfl | cases h

theorem putL_fold : ∀ (us : List Value) (off k : Nat) (cs : List Value), (us.zipIdx k).foldl (fun (cs : Array Value) (x : Value × Nat) => cs.setIfInBounds (off + x.2) x.1) cs.toArray = (putL cs (off + k) us).toArray
  | [], _, _, _ => rfl
  | u :: us, off, k, cs => by
    rw [List.zipIdx_cons, List.foldl_cons]
    show (us.zipIdx (k + 1)).foldl _ (cs.toArray.setIfInBounds (off + k) u) = _
    rw [List.setIfInBounds_toArray, putL_fold us off (k + 1)]
    rfl

theorem fill_of : ∀ {xs : List (Nat × Operand)} {r : List (Nat × List Value)} {vs : List (Nat × Value)} {places : List (Nat × Nat)} {cs cs' : List Value}, partsOK φ xs r vs → fillL places cs r = some cs' → Instr.fill (places.toArray[·]?) cs.toArray vs = some cs'.toArray
  | [], [], [], _, _, _, _, hf => by cases hf; rfl
  | (i, x) :: xs, (j, us) :: r, (k, v) :: vs, places, cs, cs', hp, hf => by
    obtain ⟨⟨_, rfl, rfl, hc⟩, hp⟩ := hp
    unfold fillL at hf
    unfold Instr.fill
    cases hpl : places[i]? with
    | none => rw [hpl] at hf; cases hf
    | some q =>
      obtain ⟨off, size⟩ := q
      rw [hpl] at hf
      have hpl' : places.toArray[i]? = some (off, size) := by simpa using hpl
      simp only [hpl']
      simp only at hf
      cases hb : Nat.beq us.length size && Nat.ble (off + us.length) cs.length with
      | false => rw [hb] at hf; cases hf
      | true =>
        rw [hb] at hf
        rw [Bool.and_eq_true] at hb
        have h1 := Nat.eq_of_beq_eq_true hb.1
        have h2 := Nat.le_of_ble_eq_true hb.2
        rw [if_neg (by rw [hc]; simp; omega), hc]
        have := putL_fold us off 0 cs
        rw [Nat.add_zero] at this
        have e : (us.toArray.zipIdx.foldl (fun (cs : Array Value) (x : Value × Nat) => cs.setIfInBounds (off + x.2) x.1) cs.toArray) = (putL cs off us).toArray := by
          rw [← this]; simp
        show Instr.fill _ (us.toArray.zipIdx.foldl (fun (cs : Array Value) (x : Value × Nat) => cs.setIfInBounds (off + x.2) x.1) cs.toArray) vs = _
        rw [e]
        exact fill_of hp hf
  | [], [], _ :: _, _, _, _, hp, _ => hp.elim
  | [], _ :: _, _, _, _, _, hp, _ => hp.elim
  | _ :: _, [], _, _, _, _, hp, _ => hp.elim
  | _ :: _, _ :: _, [], _, _, _, hp, _ => hp.elim

theorem partsOK.map {a : Act} (hev : ∀ x v, φ.ev x = some v → a.eval x = v) : ∀ {xs : List (Nat × Operand)} {r : List (Nat × List Value)} {vs : List (Nat × Value)}, partsOK φ xs r vs → xs.map (fun p => (p.1, a.eval p.2)) = vs
  | [], [], [], _ => rfl
  | (i, x) :: xs, (j, us) :: r, (k, v) :: vs, hp => by
    obtain ⟨⟨h1, rfl, rfl, hc⟩, hp⟩ := hp
    rw [List.map_cons, partsOK.map hev hp, hev x v h1]
  | [], [], _ :: _, hp => hp.elim
  | [], _ :: _, _, hp => hp.elim
  | _ :: _, [], _, hp => hp.elim
  | _ :: _, _ :: _, [], hp => hp.elim

theorem opv_build {t : TypeId} {xs : List (Nat × Operand)} {zs cs : List Value} {places : List (Nat × Nat)} (r : List (Nat × List Value)) (vs : List (Nat × Value)) (ho : o.op = .build t xs.toArray) (hb : bldInfo P t = some (zs, places)) (hp : partsOK φ xs r vs) (hf : fillL places zs r = some cs) : OpV P φ o h (Det (.agg cs.toArray) h) := by
  intro a w hev hw
  refine .inl ⟨_, w, ?_, Same.refl w, rfl, hw.symm⟩
  have hbt : P.built t vs = some cs.toArray := by
    unfold bldInfo at hb
    unfold Program.built
    split at hb
    · rename_i it fields h1 h2
      split at hb
      · rename_i z pl h3 h4
        cases hb
        simp only [h1, h2, h3, h4]
        have := fill_of hp hf
        simpa using this
      · cases hb
    · cases hb
  have hm := partsOK.map (a := a) hev hp
  have hm' : (xs.toArray.map fun (x : Nat × Operand) => (x.1, a.eval x.2)).toList = vs := by simp [hm]
  have := run_build w t (xs.toArray.map fun (x : Nat × Operand) => (x.1, a.eval x.2)) cs.toArray (by rw [hm']; exact hbt)
  simp [execOp, ho] at this ⊢
  simp [this]

/-- the cells of a list's elements, one after another -/
theorem RelL.of_single {α : Type} {K : Kd α} {z : α} {us : List Value} (h : K.rel z us) : RelL K [z] us := ⟨us, [], by simp, h, rfl⟩

/-- a literal of one element of several cells -/
theorem opS_litW {α : Type} {K : Kd α} {t E : TypeId} {x : Operand} {u : Value} {us : List Value} {z : α} {n b : Nat} {zz : Value} (ho : o.op = .buildSlice t 1 #[(0, x)]) (ht : P.underlying t = some (.slice E)) (hinf : elemInfo P E = some (zz, n, b)) (hn : n = K.size) (hzz : zz.cells.size = n) (hsm : Nat.ble n 1000 = true) (hx : φ.ev x = some u) (hc : u.cells = us.toArray) (hz : K.rel z us) :
    OpV P φ o h (Made h [] (fun v => [ownO K E v [z]])) := by
  intro a w hev hw'
  subst hw'
  obtain ⟨i, hi, hzr, hs, _⟩ := elemInfo_some hinf
  have hsm := Nat.le_of_ble_eq_true hsm
  have hul : us.length = n := by rw [hn]; exact K.len z us hz
  have hpos : 0 < n := by rw [hn]; exact K.pos
  have hrun : (execOp a.eval o).run P w = .ok (.value (.slice (some ⟨w.heap.size, 0, none⟩) 1 1)) (w.alloc (.cells us.toArray E)) := by
    have h2 : ∀ (us cs : List Value) (k : Nat) (pre : List Value), pre.length = k → cs.length = us.length → putL (pre ++ cs) k us = pre ++ us := by
      intro us
      induction us with
      | nil => intro cs k pre hk hl; have : cs = [] := List.eq_nil_of_length_eq_zero (by simpa using hl); subst this; rfl
      | cons u us ih =>
        intro cs k pre hk hl
        cases cs with
        | nil => simp at hl
        | cons c cs =>
          show putL ((pre ++ c :: cs).set k u) (k + 1) us = _
          rw [List.set_append_right _ _ (by omega), hk, Nat.sub_self, List.set_cons_zero]
          have := ih cs (k + 1) (pre ++ [u]) (by simp [hk]) (by simpa using hl)
          simpa using this
    have hfillA : ∀ A : Array Value, A.size = us.length → Instr.fill (fun i => some (i * n, n)) A [(0, u)] = some us.toArray := by
      intro A hA
      obtain ⟨l⟩ := A
      have hl : l.length = us.length := by simpa using hA
      unfold Instr.fill
      simp only [Nat.zero_mul, Nat.zero_add]
      rw [if_neg (by rw [hc]; simp [hul, hl])]
      unfold Instr.fill
      rw [hc]
      have := putL_fold us 0 0 l
      have h3 := h2 us l 0 [] rfl hl
      simp only [List.nil_append] at h3
      rw [Nat.zero_add, h3] at this
      simp only [Nat.zero_add] at this
      simpa using this
    have hfill' := hfillA ((Array.range n).map (zz.cells[· % zz.cells.size]!)) (by simp [hul])
    have hbig : ¬ (n > 2 ^ 24) := by omega
    have hbig' : ¬ (16777216 < n) := by omega
    have hn0 : n ≠ 0 := by omega
    simp [execOp, ho, hev x _ hx, Instr.buildSlice, run_underlying ht, sizeOf, typeInfo, hi, hs, zeroValue, hzr, newRow, hbig', hn0] 
    simp [hfill']
  refine .inl ⟨_, _, hrun, ⟨rfl, rfl, rfl⟩, (ext_push _ _).mod _, ?_⟩
  have hnew : (w.alloc (.cells us.toArray E)).heap[w.heap.size]? = some (.cells us.toArray E (0, 0)) := heap_alloc_new w _
  have hown : Own K E 0 (w.alloc (.cells us.toArray E)).heap (.slice (some ⟨w.heap.size, 0, none⟩) 1 1) [z] := by
    refine ⟨us, ⟨by simp [hul, hn], .inr ⟨w.heap.size, 1, us.toArray, rfl, Nat.zero_le _, hnew, Nat.le_refl _, by decide, by simp [hul, hn], by simp [show K.size = us.length by omega]⟩⟩, RelL.of_single hz⟩
  exact Sep.one (x := some w.heap.size) hown (fun b hb => by
    cases hb
    exact ⟨by show w.heap.size < (w.heap.push _).size; simp, .inl (Nat.le_refl _)⟩)
/-- appending to a literal without elements makes a new row -/
theorem opS_append0 {α : Type} {K : Kd α} {t E : TypeId} {x y : Operand} {e g : Nat} {vy zz : Value} {m : List α} {n b : Nat} (ho : o.op = .call { callee := .builtin .append, args := #[x, y], argTypes := #[t, t] }) (ht : P.underlying t = some (.slice E)) (hinf : elemInfo P E = some (zz, n, b)) (hn : n = K.size) (hzz : zz.cells.size = n)
    (hx : φ.ev x = some (.slice (some ⟨g, 0, none⟩) 0 0)) (hy : φ.ev y = some vy) (H : (ownO K E (.slice (some ⟨g, 0, none⟩) 0 0) ([] : List α)).holds h) (HY : SL K e h vy m) (hb : 0 < b) (hb2 : b ≤ 64) (hfit : 0 < m.length ∧ m.length ≤ 1000000000) :
    OpV P φ o h (Made h [] (fun u => [ownO K E u m])) := by
  intro a w hev hw'
  subst hw'
  obtain ⟨i, hi, hz, hs, hby⟩ := elemInfo_some hinf
  obtain ⟨xs, hown, hr⟩ := H
  obtain ⟨ay, c, ys, rfl, ⟨hmc, hry⟩, hc⟩ := HY
  have hxs : xs = [] := hr
  subst hxs
  have hfit' : (0 + m.length) * b ≤ 140737488355328 := Nat.le_trans (Nat.mul_le_mul (show 0 + m.length ≤ 1000000000 by omega) hb2) (by decide)
  have hml : 0 + m.length ≤ maxLen := by simp only [maxLen]; omega
  rcases hc with rfl | ⟨p, rfl, hsp, hpb, hcell⟩
  · simp at hfit
  · have hnews : ∀ j u, ys[j]? = some u → w.cell? (p.add j) = some u := hcell
    have hyl : ys.length = m.length * i.size := by rw [hry.length, hs, hn]
    obtain ⟨u, w', h1, h2, h3, h4⟩ := run_append_own (P := P) w 0 t o.type E i zz K.size b ht hi hz (by omega) hby (by omega) K.pos (.slice (some ⟨g, 0, none⟩) 0 0) 0 [] hown p m.length c ys (by rw [hry.length]) hnews hry.one hml hfit' (Nat.zero_le _)
    have hrr := run_append_grow (P := P) w t o.type E i zz ht hi hz ⟨g, 0, none⟩ 0 0 [] (by simp) (by simp) p m.length c ys hyl hnews (by omega) (by simp only [maxLen] at hml; omega) (growslice_fits (by omega) (by rw [hby]; exact hfit'))
    rw [h1] at hrr
    simp only [Result.ok.injEq] at hrr
    obtain ⟨e1, e2⟩ := hrr
    have hext : Ext w.heap w'.heap := by rw [e2]; exact ext_push _ _
    have h2' : (hw w'.heap).ownsRow 0 E K.size u (([] : List α).length + m.length) ([] ++ ys) := h2
    have hown2 : Own K E 0 w'.heap u (([] : List α) ++ m) := ⟨[] ++ ys, by rw [List.length_append]; exact h2', hr.append hry⟩
    refine .inl ⟨u, w', ?_, ⟨h3.tape, h3.os, h3.output⟩, hext.mod _, ?_⟩
    · simp [execOp, ho, resolve, hev x _ hx, hev y _ hy, invoke, builtin, h1]
    · refine Sep.one (o := ownO K E u m) (x := u.ownBlock) hown2 (fun k hk => ?_)
      have hk' : u.ownBlock = some k := hk
      rw [e1] at hk'
      simp only [Value.ownBlock, Option.some.injEq] at hk'
      subst hk'
      exact ⟨by rw [e2]; show w.heap.size < (w.heap.push _).size; simp, .inl (Nat.le_refl _)⟩

theorem opS_lit00 {α : Type} {K : Kd α} {t E : TypeId} (ho : o.op = .buildSlice t 0 #[]) (ht : P.underlying t = some (.slice E)) (hinf : (P.info? E).isSome = true) :
    OpV P φ o h (fun v h' => ∃ g, v = .slice (some ⟨g, 0, none⟩) 0 0 ∧ Made h [] (fun _ => [ownO K E (.slice (some ⟨g, 0, none⟩) 0 0) ([] : List α)]) undef h') := by
  intro a w hev hw'
  subst hw'
  obtain ⟨i, hi⟩ := Option.isSome_iff_exists.1 hinf
  refine .inl ⟨.slice (some ⟨w.heap.size, 0, none⟩) 0 0, w.alloc (.cells #[] E), ?_, ⟨rfl, rfl, rfl⟩, w.heap.size, rfl, (ext_push _ _).mod _, ?_⟩
  · have hr0 : Array.range 0 = #[] := by decide
    simp [execOp, ho, Instr.buildSlice, run_underlying ht, sizeOf, typeInfo, hi, Instr.fill, newRow, hr0]
  · refine Sep.one (o := ownO K E _ ([] : List α)) (x := some w.heap.size) ⟨[], ⟨by simp, .inr ⟨w.heap.size, 0, #[], rfl, Nat.zero_le _, heap_alloc_new w _, Nat.le_refl _, by decide, by simp, by simp⟩⟩, rfl⟩ (fun b hb => ?_)
    cases hb
    exact ⟨by show w.heap.size < (w.heap.push _).size; simp, .inl (Nat.le_refl _)⟩
end
end Go.H

/- Regions that draw their order, where a copy may come late: behind the first of the operations that follow one another. -/
set_option linter.unusedVariables false
namespace Go.H
open Go

section
variable {P : Program} {N : Nat} {Q : Exit → Fr → Heap → Prop} {ops : List Oper}

/-- the tail's operations follow one another, and wait for all but the late ones -/
def tailL (ops : List Oper) (nb : Nat) (lates : List Nat) : Bool :=
  (List.range (ops.length - nb)).all fun k => (depsOf ops (nb + k)).all (fun e => decide (e < nb + k)) &&
    (List.range (nb + k)).all (fun i => (closeDown ops (nb + k) (depsOf ops (nb + k))).contains i || lates.contains i)

/-- a late operation has nothing to do with the others that may be open -/
def freeL (ops : List Oper) (nb : Nat) (lates : List Nat) (i : Nat) : Bool :=
  match ops[i]? with
  | none => false
  | some oi => (List.range ops.length).all fun j => j == i || (decide (j < nb) && !lates.contains j) || match ops[j]? with
      | some oj => oj.after.any (fun e => Region.binds .any e && e.on == i) || oi.apart ops.toArray oj
      | none => true

/-- an operation that gives its value in each world and turns nothing -/
def OpY (P : Program) (φ : Fr) (o : Oper) (u : Value) : Prop := ∀ (a : Act), (∀ x v, φ.ev x = some v → a.eval x = v) → ∀ w, (execOp a.eval o).run P w = .ok (.value u) w

def LateOK (P : Program) (ops : List Oper) (φ : Fr) (h : Heap) (S : Nat → Value → Heap → Prop) (Bl : List (Option (Value → List (Option Nat)))) (Ll : List (Option (Nat × (Value → Value)))) (dl : List (List Nat)) (i : Nat) : Prop :=
  ∃ ds o, dl[i]? = some ds ∧ ops[i]? = some o ∧ o.guard = none ∧ ds.all (fun j => (depsOf ops i).contains j) = true ∧ ∀ h', Ext h h' → Dep ops S h' ds φ (fun φ' => ∃ u, OpY P φ' o u ∧ KL (nthL Ll i) φ' (KM (nthB Bl i) (S i) h') u h')
inductive LatesOK (P : Program) (ops : List Oper) (φ : Fr) (h : Heap) (S : Nat → Value → Heap → Prop) (Bl : List (Option (Value → List (Option Nat)))) (Ll : List (Option (Nat × (Value → Value)))) (dl : List (List Nat)) : List Nat → Prop
  | nil : LatesOK P ops φ h S Bl Ll dl []
  | cons {i : Nat} {l : List Nat} : LateOK P ops φ h S Bl Ll dl i → LatesOK P ops φ h S Bl Ll dl l → LatesOK P ops φ h S Bl Ll dl (i :: l)
theorem LatesOK.mem {φ : Fr} {h : Heap} {S : Nat → Value → Heap → Prop} {Bl : List (Option (Value → List (Option Nat)))} {Ll : List (Option (Nat × (Value → Value)))} {dl : List (List Nat)} {l : List Nat} (H : LatesOK P ops φ h S Bl Ll dl l) : ∀ {i : Nat}, i ∈ l → LateOK P ops φ h S Bl Ll dl i := by
  induction H with
  | nil => intro i hi; cases hi
  | cons h1 _ ih =>
    intro i hi
    rcases List.mem_cons.1 hi with rfl | hi
    · exact h1
    · exact ih hi

theorem late_case {Bl : List (Option (Value → List (Option Nat)))} {Ll : List (Option (Nat × (Value → Value)))} {dl : List (List Nat)} {Sl : List (Value → Heap → Prop)} {φ : Fr} {h : Heap} {w0 : World} {Qw : Exit → Act → World → Prop}
    (hB : bodyOK N ops dl.length = true) {lates : List Nat} (hφ : clearB ops dl.length φ = true) (stable : StableL Ext Sl) (hTl : lates.all (fun i => decide (i < dl.length)) = true) (hns : Region.noSelect ops.toArray = true) (hfr : lates.all (fun i => freeL ops dl.length lates i) = true) (hQp : ∀ c a w, ¬ Qw (.panic c) a w)
    (hLn : linksOK ops Ll dl.length = true) (lsteps : ∀ i, i ∈ lates → LateOK P ops φ h (nthS Sl) Bl Ll dl i)
    {m : Nat} {listed : Array Bool} {a : Act} {w : World} (hc : cnt listed.toList = m + 1) (I : InvM Bl Ll N ops dl.length (nthS Sl) φ h w0 listed a w) (hall : ¬ ∀ i, i < dl.length → listed.getD i false = true)
    (hlate : ∀ i, i < dl.length → lates.contains i = false → listed.getD i false = true)
    (ih : ∀ (listed : Array Bool) (a : Act) (w : World), cnt listed.toList = m → InvM Bl Ll N ops dl.length (nthS Sl) φ h w0 listed a w → wpAny P .any ops.toArray Qw m listed a w) : wpAny P .any ops.toArray Qw (m + 1) listed a w := by
  have hne : ∃ i, i < dl.length ∧ listed.getD i false = false ∧ ∀ k, k < i → listed.getD k false = true := by
    have hex : ∃ i, i < dl.length ∧ listed.getD i false = false := by
      refine Classical.byContradiction fun hno => hall fun i hi => ?_
      cases hb : listed.getD i false with
      | true => rfl
      | false => exact absurd ⟨i, hi, hb⟩ hno
    obtain ⟨i, hi⟩ := hex
    induction i using Nat.strongRecOn with
    | _ i ihi =>
      by_cases hk : ∀ k, k < i → listed.getD k false = true
      · exact ⟨i, hi.1, hi.2, hk⟩
      · have : ∃ k, k < i ∧ listed.getD k false = false := by
          refine Classical.byContradiction fun hno => hk fun k hki => ?_
          cases hb : listed.getD k false with
          | true => rfl
          | false => exact absurd ⟨k, hki, hb⟩ hno
        obtain ⟨k, hki, hkf⟩ := this
        exact ihi k hki ⟨by omega, hkf⟩
  obtain ⟨i, hib, hf0, hlow⟩ := hne
  obtain ⟨o, d, ho, hd, hdN, hdep0, _⟩ := body_spec hB hib
  have hil : i < ops.length := (List.getElem?_eq_some_iff.1 ho).1
  have hls : i < listed.size := by rw [I.inv.len]; exact hil
  have hil' : i ∈ lates := by
    cases hcl : lates.contains i with
    | true => simpa using hcl
    | false => have := hlate i hib hcl; rw [hf0] at this; cases this
  have h3 : ∀ e ∈ depsOf ops i, listed.getD e false = true := fun e he => hlow e (hdep0 e he)
  have hr0 : i ∈ Region.ready .any ops.toArray listed := ready_of (by
    simp only [hls, Array.getD_eq_getD_getElem?, Array.getElem?_eq_getElem, Option.getD_some] at hf0 ⊢; exact hf0) hil h3
  obtain ⟨ds, o', hds, ho', hgd, hsub, hstep⟩ := lsteps i hil'
  rw [ho] at ho'
  cases ho'
  have hokφ : Ok N φ a := ⟨I.inv.defers, I.inv.size, I.inv.base⟩
  obtain ⟨ψ, hψ, u, hY, hK⟩ := Dep.run I.inv ds φ _ (fun j hj => h3 j (by simpa using List.all_eq_true.1 hsub j hj)) hokφ (hstep w.heap I.inv.ext)
  have hcn : cnt (listed.setIfInBounds i true).toList = m := by
    have hfl : listed.toList[i]? = some false := by
      simp only [hls, Array.getD_eq_getD_getElem?, Array.getElem?_eq_getElem, Option.getD_some] at hf0
      simp [hls, hf0]
    have := cnt_set listed.toList i hfl
    rw [Array.toList_setIfInBounds]
    omega
  have ho2 : ops.toArray[i]? = some o := by simpa using ho
  refine wpAny_take ho2 hns ?_ (by simpa using hr0) (fun c a w hq => absurd hq (hQp c _ w)) (.inl ⟨by simp [Region.wanted, hgd], hY a (fun x v => hψ.eval)⟩) (ih _ _ _ hcn (I.put hB hφ (fun k _ _ _ => stable.nth k) hib hf0 ho h3 I.inv.same hψ hLn hK))
  -- free of the others
  have hfi := List.all_eq_true.1 hfr i hil'
  unfold freeL at hfi
  rw [ho] at hfi
  unfold Region.free
  rw [ho2]
  simp only at hfi ⊢
  rw [List.all_eq_true] at hfi ⊢
  intro j hj
  have hjl : j < ops.length := by simpa using hj
  have h1 := hfi j (by simpa using hjl)
  have e2 : ops.toArray[j]? = ops[j]? := by simp
  rw [e2]
  by_cases hnl : (decide (j < dl.length) && !lates.contains j) = true
  · simp only [Bool.and_eq_true, decide_eq_true_eq, Bool.not_eq_true'] at hnl
    have h5 := hlate j hnl.1 hnl.2
    have h6 := getD_true_of h5
    rw [h6]
    simp
  · have hnl' : (decide (j < dl.length) && !lates.contains j) = false := by simpa using hnl
    rw [hnl', Bool.or_false] at h1
    rw [Bool.or_eq_true] at h1 ⊢
    rcases h1 with h1 | h1
    · exact .inl (by rw [h1]; rfl)
    · exact .inr h1

theorem tail_anyL {nb : Nat} {lates : List Nat} (hT : tailL ops nb lates = true) (hTl : lates.all (fun i => decide (i < nb)) = true) (Qw : Exit → Act → World → Prop) : ∀ (m k : Nat) (listed : Array Bool) (a : Act) (w : World), nb ≤ k → k + m = ops.length → listed.size = ops.length → Upto k listed → Down ops listed →
    wpList P ops.toArray Qw (ops.drop k) a w → wpAny P .any ops.toArray Qw m listed a w := by
  intro m
  induction m with
  | zero =>
    intro k listed a w hk hm hs hu _ H
    have hn : Region.ready .any ops.toArray listed = [] := by
      refine List.eq_nil_iff_forall_not_mem.2 fun i hi => ?_
      obtain ⟨h1, h2, _⟩ := ready_deps hi
      have := (hu i (by omega)).2 (by omega)
      have := getD_true_of this
      rw [h1] at this; cases this
    refine ⟨hn, ?_⟩
    rw [List.drop_eq_nil_of_le (by omega)] at H
    exact H
  | succ m ih =>
    intro k listed a w hk hm hs hu hd H
    have hT' := List.all_eq_true.1 hT (k - nb) (by simp; omega)
    rw [show nb + (k - nb) = k from by omega, Bool.and_eq_true] at hT'
    have hdep : ∀ e ∈ depsOf ops k, listed.getD e false = true := fun e he => by
      have := List.all_eq_true.1 hT'.1 e he
      have := of_decide_eq_true this
      exact (hu e (by omega)).2 this
    have hk0 : listed.getD k true = false := by
      have hlt : k < listed.size := by omega
      have h1 : ¬ listed.getD k false = true := fun h => by have := (hu k hlt).1 h; omega
      simp [hlt] at h1 ⊢
      exact h1
    have hr : k ∈ Region.ready .any ops.toArray listed := ready_of hk0 (by omega) hdep
    refine ⟨fun h => (by rw [h] at hr; cases hr), fun i hi => ?_⟩
    obtain ⟨h1, h2, h3⟩ := ready_deps hi
    have hik : i = k := by
      have hi1 : ¬ i < k := fun hlt => by
        have := getD_true_of ((hu i (by omega)).2 hlt)
        rw [h1] at this; cases this
      have hi2 : ¬ k < i := fun hlt => by
        have hTi := List.all_eq_true.1 hT (i - nb) (by simp; omega)
        rw [show nb + (i - nb) = i from by omega, Bool.and_eq_true] at hTi
        have := List.all_eq_true.1 hTi.2 k (by simp; omega)
        have hlk : lates.contains k = false := by
          cases hc : lates.contains k with
          | false => rfl
          | true =>
            have := List.all_eq_true.1 hTl k (by simpa using hc)
            simp at this
            omega
        rw [hlk, Bool.or_false] at this
        have := closeDown_listed hd i (depsOf ops i) h3 k (by simpa using this)
        have := (hu k (by omega)).1 this
        omega
      omega
    subst hik
    rw [List.drop_eq_getElem_cons h2] at H
    unfold wpOp
    have hl' : ops.toArray[i]? = some ops[i] := by simp
    rw [hl']
    simp only [wpList] at H
    have next : ∀ a w, wpList P ops.toArray Qw (ops.drop (i + 1)) a w → wpAny P .any ops.toArray Qw m (listed.setIfInBounds i true) a w := by
      intro a w H
      refine ih (i + 1) _ a w (by omega) (by omega) (by simp [hs]) ?_ (down_set hd h3) H
      intro j hj
      have hj' : j < listed.size := by simpa using hj
      by_cases hij : i = j
      · subst hij; simp [hj']
      · have := hu j hj'
        simp only [Array.getD_eq_getD_getElem?, Array.getElem?_setIfInBounds_ne hij] at this ⊢
        rw [this]; omega
    by_cases hw : Region.wanted ops[i] (yielded ops.toArray a.tmps) = true
    · rw [if_pos hw] at H
      simp only [hw, if_true]
      exact H.imp (Oper.wp_mono next) id
    · rw [if_neg hw] at H
      simp only [hw]
      exact next _ _ H

theorem body_anyL {Bl : List (Option (Value → List (Option Nat)))} {Ll : List (Option (Nat × (Value → Value)))} {dl : List (List Nat)} {Sl : List (Value → Heap → Prop)} {φ : Fr} {h : Heap} {w0 : World} {Qw : Exit → Act → World → Prop}
    (hB : bodyOK N ops dl.length = true) {lates : List Nat} (hT : tailL ops dl.length lates = true) (hTl : lates.all (fun i => decide (i < dl.length)) = true) (hns : Region.noSelect ops.toArray = true) (hfr : lates.all (fun i => freeL ops dl.length lates i) = true) (hQp : ∀ c a w, ¬ Qw (.panic c) a w) (hφ : clearB ops dl.length φ = true) (hln : dl.length ≤ ops.length)
    (stable : StableL Ext Sl) (steps : StepsM P ops φ h (nthS Sl) Bl Ll 0 dl ops) (hLn : linksOK ops Ll dl.length = true) (lsteps : ∀ i, i ∈ lates → LateOK P ops φ h (nthS Sl) Bl Ll dl i)
    (fin' : ∀ listed a w, InvM Bl Ll N ops dl.length (nthS Sl) φ h w0 listed a w → (∀ i, i < dl.length → listed.getD i false = true) → wpList P ops.toArray Qw (ops.drop dl.length) a w) :
    ∀ (m : Nat) (listed : Array Bool) (a : Act) (w : World), cnt listed.toList = m → InvM Bl Ll N ops dl.length (nthS Sl) φ h w0 listed a w → wpAny P .any ops.toArray Qw m listed a w := by
  intro m
  induction m with
  | zero =>
    intro listed a w hc I
    have hall : ∀ i, i < ops.length → listed.getD i false = true := fun i hi => by
      have := cnt_zero hc i (by simpa [I.inv.len] using hi)
      have : listed[i]? = some true := by simpa using this
      simp [this]
    refine tail_anyL hT hTl Qw 0 ops.length listed a w hln (by omega) I.inv.len (fun i hi => ⟨fun _ => by have := I.inv.len; omega, fun _ => hall i (by have := I.inv.len; omega)⟩) I.inv.down ?_
    have := fin' listed a w I (fun i hi => hall i (by omega))
    rcases Nat.lt_or_ge dl.length ops.length with hlt | hge
    · have h1 := I.inv.notail dl.length (Nat.le_refl _)
      rw [hall _ hlt] at h1; cases h1
    · rw [List.drop_eq_nil_of_le hge] at this
      rw [List.drop_eq_nil_of_le (Nat.le_refl _)]
      exact this
  | succ m ih =>
    intro listed a w hc I
    by_cases hall : ∀ i, i < dl.length → listed.getD i false = true
    · have hu : Upto dl.length listed := by
        intro i _
        refine ⟨fun h1 => ?_, hall i⟩
        rcases Nat.lt_or_ge i dl.length with h | h
        · exact h
        · have := I.inv.notail i h
          rw [this] at h1
          cases h1
      have hm : dl.length + (m + 1) = ops.length := by
        have hsplit : cnt listed.toList = ops.length - dl.length := by
          have e : listed.toList = List.replicate dl.length true ++ List.replicate (ops.length - dl.length) false := by
            refine List.ext_getElem? fun i => ?_
            rcases Nat.lt_or_ge i ops.length with hi | hi
            · have hsz : i < listed.size := by rw [I.inv.len]; exact hi
              rcases Nat.lt_or_ge i dl.length with h | h
              · have := hall i h
                simp only [hsz, Array.getD_eq_getD_getElem?, Array.getElem?_eq_getElem, Option.getD_some] at this
                simp [List.getElem?_append, h, hsz, this]
              · have := I.inv.notail i h
                simp only [hsz, Array.getD_eq_getD_getElem?, Array.getElem?_eq_getElem, Option.getD_some] at this
                rw [List.getElem?_append_right (by simpa using h)]
                simp only [Array.getElem?_toList, hsz, Array.getElem?_eq_getElem, this, List.length_replicate, List.getElem?_replicate]
                rw [if_pos (by omega)]
            · have hsz : ¬ i < listed.size := by rw [I.inv.len]; omega
              rw [List.getElem?_eq_none (by simp; omega), List.getElem?_eq_none (by simp; omega)]
          rw [e]
          simp [cnt, List.count_append, List.count_replicate]
        omega
      exact tail_anyL hT hTl Qw (m + 1) dl.length listed a w (Nat.le_refl _) hm I.inv.len hu I.inv.down (fin' listed a w I hall)
    · by_cases hlate : ∀ i, i < dl.length → lates.contains i = false → listed.getD i false = true
      · exact late_case hB hφ stable hTl hns hfr hQp hLn lsteps hc I hall hlate ih
      have hne : ∃ i, i < dl.length ∧ listed.getD i false = false ∧ ∀ k, k < i → listed.getD k false = true := by
        have hex : ∃ i, i < dl.length ∧ listed.getD i false = false := by
          refine Classical.byContradiction fun hno => hall fun i hi => ?_
          cases hb : listed.getD i false with
          | true => rfl
          | false => exact absurd ⟨i, hi, hb⟩ hno
        obtain ⟨i, hi⟩ := hex
        induction i using Nat.strongRecOn with
        | _ i ihi =>
          by_cases hk : ∀ k, k < i → listed.getD k false = true
          · exact ⟨i, hi.1, hi.2, hk⟩
          · have : ∃ k, k < i ∧ listed.getD k false = false := by
              refine Classical.byContradiction fun hno => hk fun k hki => ?_
              cases hb : listed.getD k false with
              | true => rfl
              | false => exact absurd ⟨k, hki, hb⟩ hno
            obtain ⟨k, hki, hkf⟩ := this
            exact ihi k hki ⟨by omega, hkf⟩
      obtain ⟨i0, hi0, hf0, hlow⟩ := hne
      obtain ⟨o0, d0, ho0, _, _, hdep0, _⟩ := body_spec hB hi0
      have hi0l : i0 < ops.length := (List.getElem?_eq_some_iff.1 ho0).1
      have hr0 : i0 ∈ Region.ready .any ops.toArray listed := ready_of (by
        have : i0 < listed.size := by rw [I.inv.len]; exact hi0l
        simp only [this, Array.getD_eq_getD_getElem?, Array.getElem?_eq_getElem, Option.getD_some] at hf0 ⊢; exact hf0) hi0l (fun e he => hlow e (hdep0 e he))
      refine ⟨fun h => (by rw [h] at hr0; cases hr0), fun i hi => ?_⟩
      obtain ⟨h1, h2, h3⟩ := ready_deps hi
      have hib : i < dl.length := by
        refine Classical.byContradiction fun hge => hlate fun k hk hkl => ?_
        have hTi := List.all_eq_true.1 hT (i - dl.length) (by simp; omega)
        rw [show dl.length + (i - dl.length) = i from by omega, Bool.and_eq_true] at hTi
        have := List.all_eq_true.1 hTi.2 k (by simp; omega)
        rw [hkl, Bool.or_false] at this
        exact closeDown_listed I.inv.down i (depsOf ops i) h3 k (by simpa using this)
      obtain ⟨o, d, ho, hd, hdN, _, _⟩ := body_spec hB hib
      obtain ⟨o', ho', hsub, hstep⟩ := steps.nth i dl[i] (List.getElem?_eq_getElem hib)
      rw [ho] at ho'
      cases ho'
      simp only [Nat.zero_add] at hsub hstep
      have hokφ : Ok N φ a := ⟨I.inv.defers, I.inv.size, I.inv.base⟩
      obtain ⟨ψ, hψ, hG⟩ := Dep.run I.inv dl[i] φ _ (fun j hj => h3 j (by simpa using List.all_eq_true.1 hsub j hj)) hokφ (hstep w.heap I.inv.ext)
      have hcn : cnt (listed.setIfInBounds i true).toList = m := by
        have hlt : i < listed.size := by rw [I.inv.len]; exact h2
        have hfl : listed.toList[i]? = some false := by
          simp only [hlt, Array.getD_eq_getD_getElem?, Array.getElem?_eq_getElem, Option.getD_some] at h1
          simp [hlt, h1]
        have := cnt_set listed.toList i hfl
        rw [Array.toList_setIfInBounds]
        omega
      have hun : listed.getD i false = false := by
        have hlt : i < listed.size := by rw [I.inv.len]; exact h2
        simp only [hlt, Array.getD_eq_getD_getElem?, Array.getElem?_eq_getElem, Option.getD_some] at h1 ⊢
        exact h1
      have next : ∀ v w', Same w0 w' → KL (nthL Ll i) ψ (KM (nthB Bl i) (nthS Sl i) w.heap) v w'.heap → wpAny P .any ops.toArray Qw m (listed.setIfInBounds i true) (a.put o.dst v) w' := fun v w' hs hk =>
        ih _ _ _ hcn (I.put hB hφ (fun k _ _ _ => stable.nth k) hib hun ho h3 hs hψ hLn hk)
      unfold wpOp
      have ho2 : ops.toArray[i]? = some o := by simpa using ho
      rw [ho2]
      simp only
      unfold GuardOK at hG
      cases hg : o.guard with
      | none =>
        rw [hg] at hG
        rw [if_pos (by simp [Region.wanted, hg])]
        exact .inl (OpV.wp hG hψ rfl I.inv.same fun v w' hs hk => next v w' hs hk)
      | some gw =>
        obtain ⟨j, want⟩ := gw
        rw [hg] at hG
        simp only at hG
        cases hdj : dstOf ops j with
        | none => rw [hdj] at hG; exact hG.elim
        | some t =>
          rw [hdj] at hG
          rcases hG with ⟨b, hb, hyes, hno⟩ | ⟨hu, hK⟩
          case inr =>
            have hy : yielded ops.toArray a.tmps j = none := by
              unfold yielded
              have : (ops.toArray[j]?).bind (·.dst) = some t := by simpa [dstOf] using hdj
              rw [this]
              simp [hψ.slot t _ hu, undef]
            rw [if_neg (by simp [Region.wanted, hg, hy])]
            exact next undef w I.inv.same hK
          have hy : yielded ops.toArray a.tmps j = some b := by
            unfold yielded
            have : (ops.toArray[j]?).bind (·.dst) = some t := by simpa [dstOf] using hdj
            rw [this]
            simp [hψ.slot t _ hb]
          by_cases hbw : b = want
          · rw [if_pos (by simp [Region.wanted, hg, hy, hbw])]
            exact .inl (OpV.wp (hyes hbw) hψ rfl I.inv.same fun v w' hs hk => next v w' hs hk)
          · rw [if_neg (by simp [Region.wanted, hg, hy, hbw])]
            exact next undef w I.inv.same (hno hbw)

theorem W.regionL {id : Nat} {φ : Fr} {h : Heap} (Sl : List (Value → Heap → Prop)) (Bl : List (Option (Value → List (Option Nat)))) (Ll : List (Option (Nat × (Value → Value)))) (lates : List Nat) (dl : List (List Nat)) (js : List Nat) (hm : P.follows .mixedOrders = true)
    (hB : bodyOK N ops dl.length = true) (hT : (tailL ops dl.length lates && lates.all (fun i => decide (i < dl.length)) && Region.noSelect ops.toArray && lates.all (fun i => freeL ops dl.length lates i)) = true) (hQp : ∀ c φ h, ¬ Q (.panic c) φ h) (hφ : clearB ops dl.length φ = true) (hjs : js.all (fun j => decide (j < dl.length)) = true) (hnd : nodupB js = true) (hLn : linksOK ops Ll dl.length = true) (hln : Nat.ble dl.length ops.length = true)
    (stable : StableL Ext Sl) (steps : StepsM P ops φ h (nthS Sl) Bl Ll 0 dl ops)
    (lsteps : LatesOK P ops φ h (nthS Sl) Bl Ll dl lates)
    (fin : ∀ h', Ext h h' → DepM ops (nthS Sl) Bl h' js φ [] (fun φ' acc => acc.Pairwise Apt → (∀ i d f e v u, i ∈ js → nthL Ll i = some (d, f) → dstOf ops i = some e → φ'.get e = some v → φ'.get d = some u → v = f u) → RL P N ops.toArray Q (ops.drop dl.length) φ' h')) : W P N (.region id ops.toArray true) Q φ h := by
  intro w0 a w hs hw ho
  have hl := Nat.le_of_ble_eq_true hln
  simp only [Bool.and_eq_true] at hT
  obtain ⟨⟨⟨hT, hTl⟩, hns⟩, hfr⟩ := hT
  refine wp_region_any hm (body_anyL (Bl := Bl) (Ll := Ll) (w0 := w0) (h := h) hB hT hTl hns hfr (fun c a w hq => by obtain ⟨_, ψ, _, hq⟩ := hq; exact hQp c ψ _ hq) hφ hl stable steps hLn (fun i hi => lsteps.mem hi) ?_ _ _ _ _ ?_ ?_)
  · intro listed a' w' I hall
    have hnl : ∀ j ∈ js, listed.getD j false = true := fun j hj => hall j (of_decide_eq_true (List.all_eq_true.1 hjs j hj))
    obtain ⟨ψ, acc, hψ, hpw, hG⟩ := DepM.run I js φ [] _ [] hnl (nodupB_spec hnd) (by simp) (by simp [AccOK]) ⟨I.inv.defers, I.inv.size, I.inv.base⟩ (fin w'.heap I.inv.ext)
    refine hG hpw (fun i d f e v u hi hL hd hv hu => ?_) w0 a' w' I.inv.same rfl hψ
    obtain ⟨x, hx1, hx2⟩ := I.link i d f e v (hnl i hi) hL hd (hψ.slot e v hv)
    have := hψ.slot d u hu
    rw [hx1] at this
    cases this
    exact hx2
  · simp [cnt]
  · refine ⟨⟨ho.defers, ho.size, hs.trans (Same.drawn ..), by show Ext h w.heap; rw [hw]; exact Ext.refl _, by simp, fun i hi => by
      by_cases hlt : i < ops.length <;> simp [hlt] at hi, fun i _ => by
      by_cases hlt : i < ops.length <;> simp [hlt], fun i d hi => by
      by_cases hlt : i < ops.length <;> simp [hlt] at hi, ho.slot⟩, fun i d v hi => by
      by_cases hlt : i < ops.length <;> simp [hlt] at hi, fun i j d e v u _ hi => by
      by_cases hlt : i < ops.length <;> simp [hlt] at hi, fun i d f e v hi => by
      by_cases hlt : i < ops.length <;> simp [hlt] at hi⟩

theorem opy_move {φ : Fr} {o : Oper} {x : Operand} {u : Value} (ho : o.op = .move x) (hx : φ.ev x = some u) : OpY P φ o u := by
  intro a hev w; simp [execOp, ho, hev x _ hx]
theorem opy_assign {φ : Fr} {o : Oper} {x : Operand} {u : Value} (ho : o.op = .assign x) (hx : φ.ev x = some u) : OpY P φ o u := by
  intro a hev w; simp [execOp, ho, hev x _ hx]
theorem opy_extract {φ : Fr} {o : Oper} {x : Operand} {n : Nat} {vs : List Value} {u : Value} (ho : o.op = .extract x n) (hx : φ.ev x = some (.tuple vs.toArray)) (hu : vs[n]? = some u) : OpY P φ o u := by
  intro a hev w; simp [execOp, ho, hev x _ hx, Instr.extract, hu]
end
end Go.H

/- Regions that draw their order, whose copies and loads are taken first, one after another. -/
set_option linter.unusedVariables false
namespace Go.H
open Go

/-- an operation that gives this value and turns nothing -/
def OpX (P : Program) (φ : Fr) (o : Oper) (h : Heap) (u : Value) : Prop :=
  ∀ (a : Act) (w : World), (∀ x v, φ.ev x = some v → a.eval x = v) → w.heap = h → (execOp a.eval o).run P w = .ok (.value u) w

def TK (P : Program) (N : Nat) (ops : List Oper) (Q : Exit → Fr → Heap → Prop) (S : Heap → Prop) (fuel : Nat) (listed : Array Bool) (φ : Fr) (h : Heap) : Prop :=
  ∀ w0 a w, Same w0 w → w.heap = h → Ok N φ a → S h → wpAnyH P .any ops.toArray (Lift w0 N Q) (fun w => S w.heap) fuel listed a w

section
variable {P : Program} {N : Nat} {Q : Exit → Fr → Heap → Prop} {ops : List Oper} {S : Heap → Prop} {φ : Fr} {h : Heap}

theorem W.regionT {id : Nat} (n : Nat) (S : Heap → Prop) (hn : ops.length = n) (hm : P.follows .mixedOrders = true) (hS : S h) (H : TK P N ops Q S n (Array.replicate n false) φ h) : W P N (.region id ops.toArray true) Q φ h := by
  subst hn
  intro w0 a w hs hw ho
  exact wp_region_held hm (by
    have := H w0 a { w with drawn := w.drawn + 1 } (hs.trans (Same.drawn ..)) hw ho hS
    simpa using this)

theorem Ok.put' {a : Act} (ho : Ok N φ a) {d : Nat} {u : Value} (hd : d < N) : Ok N ((d, u) :: φ) (a.put (some d) u) := by
  refine ⟨ho.defers, by simp [Act.put, ho.size], fun t v ht => ?_⟩
  simp only [Fr.get] at ht
  have hda : d < a.tmps.size := by rw [ho.size]; exact hd
  cases hb : Nat.beq d t with
  | true =>
    rw [hb] at ht
    simp only [cond_true, Option.some.injEq] at ht
    have := Nat.eq_of_beq_eq_true hb
    subst this; subst ht
    simp [Act.put, hda]
  | false =>
    rw [hb] at ht
    have hne : d ≠ t := fun e => by subst e; simp at hb
    have := ho.slot t v ht
    simpa [Act.put, Array.getElem?_setIfInBounds_ne hne] using this

/-- take number 'i' first -/
theorem TK.take (i : Nat) {o : Oper} {d : Nat} {u : Value} {fuel : Nat} {listed : Array Bool} (hi : ops[i]? = some o) (hd : o.dst = some d) (hg : o.guard = none) (hdN : d < N)
    (hc : (Region.noSelect ops.toArray && Region.free .any ops.toArray listed i && (Region.ready .any ops.toArray listed).contains i) = true)
    (hQ : ∀ c φ h, ¬ Q (.panic c) φ h) (hY : ∀ h', S h' → OpX P φ o h' u) (H : TK P N ops Q S fuel (listed.setIfInBounds i true) ((d, u) :: φ) h) : TK P N ops Q S (fuel + 1) listed φ h := by
  intro w0 a w hs hw ho hS
  simp only [Bool.and_eq_true] at hc
  have hi' : ops.toArray[i]? = some o := by simpa using hi
  have hev : ∀ x v, φ.ev x = some v → a.eval x = v := fun x v => ho.eval
  refine wpAnyH_take hi' hc.1.1 hc.1.2 hc.2 (fun c a w hq => ?_) (.inl ⟨by simp [Region.wanted, hg], fun w' hS' => hY w'.heap hS' a w' hev rfl⟩) (by rw [hw]; exact hS) ?_
  · obtain ⟨_, ψ, _, hq⟩ := hq
    exact absurd hq (hQ c ψ _)
  · rw [hd]
    exact H w0 _ w hs hw (ho.put' hdN) hS

/-- the only one that may come -/
theorem TK.step (i : Nat) {o : Oper} {fuel : Nat} {listed : Array Bool} (K : Value → Heap → Prop) (hi : ops[i]? = some o) (hd : o.dst = none) (hg : o.guard = none)
    (hr : (Region.ready .any ops.toArray listed == [i]) = true) (hV : OpV P φ o h K) (H : ∀ v h', K v h' → S h' ∧ TK P N ops Q S fuel (listed.setIfInBounds i true) φ h') : TK P N ops Q S (fuel + 1) listed φ h := by
  intro w0 a w hs hw ho hS
  have hr' : Region.ready .any ops.toArray listed = [i] := by simpa using hr
  refine wpAnyH_all hr' (by simp) (fun j hj => ?_)
  have hj : j = i := by simpa using hj
  subst hj
  have hi' : ops.toArray[j]? = some o := by simpa using hi
  unfold wpOp
  rw [hi']
  simp only
  rw [if_pos (by simp [Region.wanted, hg])]
  refine .inl (OpV.wp hV ho hw hs fun v w' hs' hk => ?_)
  rw [hd]
  obtain ⟨h1, h2⟩ := H v w'.heap hk
  exact ⟨h1, h2 w0 _ w' hs' rfl ho h1⟩

theorem TK.done {fuel : Nat} {listed : Array Bool} (hr : (Region.ready .any ops.toArray listed == []) = true) (H : Q .normal φ h) : TK P N ops Q S fuel listed φ h := by
  intro w0 a w hs hw ho hS
  exact wpAnyH_done (by simpa using hr) ⟨hs, φ, ho, by rw [hw]; exact H⟩ fuel

theorem TK.sub {fuel : Nat} {listed : Array Bool} {ψ : Fr} (hs : Fr.sub ψ φ) (H : TK P N ops Q S fuel listed ψ h) : TK P N ops Q S fuel listed φ h :=
  fun w0 a w hs' hw ho hS => H w0 a w hs' hw (ho.sub hs) hS

theorem opx_move {o : Oper} {x : Operand} {u : Value} (ho : o.op = .move x) (hx : φ.ev x = some u) : OpX P φ o h u := by
  intro a w hev hw; simp [execOp, ho, hev x _ hx]
theorem opx_assign {o : Oper} {x : Operand} {u : Value} (ho : o.op = .assign x) (hx : φ.ev x = some u) : OpX P φ o h u := by
  intro a w hev hw; simp [execOp, ho, hev x _ hx]
theorem opx_nilCheck {o : Oper} {x : Operand} {p : Addr} (ho : o.op = .nilCheck x) (hx : φ.ev x = some (.pointer (some p))) : OpX P φ o h (.pointer (some p)) := by
  intro a w hev hw; simp [execOp, ho, hev x _ hx]
theorem opx_fieldAddr {o : Oper} {s : TypeId} {x : Operand} {f n : Nat} {b k : Nat} (ho : o.op = .fieldAddr s x f) (hf : fieldOff P s f = some n) (hx : φ.ev x = some (.pointer (some ⟨b, k, none⟩))) : OpX P φ o h (.pointer (some ⟨b, k + n, none⟩)) := by
  intro a w hev hw'
  unfold fieldOff at hf
  split at hf
  · rename_i fs hu
    split at hf
    · rename_i fd hfd
      split at hf
      · rename_i i hi
        split at hf
        · cases hf
        · rename_i hz
          cases hf
          simp [execOp, ho, hev x _ hx, Instr.fieldAt, Instr.sureAddr, run_underlying hu, hfd, fieldPlace, sizeOf, typeInfo, hi, hz, add_lit]
      · cases hf
    · cases hf
  · cases hf
theorem opx_loadB {o : Oper} {t : TypeId} {x : Operand} {b k : Nat} {cs : List Value} {u : Value} (ho : o.op = .load t x) (ht : oneCellT P t = true) (hx : φ.ev x = some (.pointer (some ⟨b, k, none⟩))) (H : Bx h b cs) (hu : cs[k]? = some u) : OpX P φ o h u := by
  intro a w hev hw'
  have := run_loadVar_one (P := P) ht (w := w) (a := ⟨b, k, none⟩) (v := u) (by rw [cell_hw hw']; exact H.cell hu)
  simp [execOp, ho, hev x _ hx, Instr.loadAt, Instr.sureAddr, this]
theorem opx_index {α : Type} {K : Kd α} {e : Nat} {v : Value} {l : List α} {o : Oper} {t E : TypeId} {x i : Operand} {k : IntKind} {n : Int} {y : α} (ho : o.op = .indexAddr t x i) (ht : P.underlying t = some (.slice E)) (hs : (P.info? E).map (·.size) = some K.size) (hx : φ.ev x = some v) (hi : φ.ev i = some (.int k n)) (H : SL K e h v l) (hn : idx l n = some y) :
    ∃ u, PtI K.size u v n.toNat ∧ ∀ h', OpX P φ o h' u := by
  obtain ⟨p, c, xs, rfl, hr, hc⟩ := H
  obtain ⟨h0, h1, _⟩ := idx_some hn
  rcases hc with rfl | ⟨q, rfl, hq, hb, hcell⟩
  · simp at h1
  obtain ⟨info, hinfo, hsz⟩ := Option.map_eq_some_iff.1 hs
  have h1' : n < (l.length : Int) := by omega
  refine ⟨.pointer (some (q.add (n.toNat * K.size))), ⟨q, l.length, c, rfl, rfl⟩, fun h' a w hev hw => ?_⟩
  simp [execOp, ho, hev x _ hx, hev i _ hi, Instr.indexAt, asIntOf, run_underlying ht, h0, h1', sizeOf, typeInfo, hinfo, hsz]

theorem TK.index (i : Nat) {o : Oper} {d : Nat} {fuel : Nat} {listed : Array Bool} {α : Type} {K : Kd α} {e : Nat} {v : Value} {l : List α} {t E : TypeId} {x ix : Operand} {k : IntKind} {n : Int} {y : α} (hi : ops[i]? = some o) (hd : o.dst = some d) (hg : o.guard = none) (hdN : d < N)
    (hc : (Region.noSelect ops.toArray && Region.free .any ops.toArray listed i && (Region.ready .any ops.toArray listed).contains i) = true)
    (hQ : ∀ c φ h, ¬ Q (.panic c) φ h) (ho : o.op = .indexAddr t x ix) (ht : P.underlying t = some (.slice E)) (hs : (P.info? E).map (·.size) = some K.size) (hx : φ.ev x = some v) (hix : φ.ev ix = some (.int k n)) (Hl : SL K e h v l) (hn : idx l n = some y)
    (H : ∀ u, PtI K.size u v n.toNat → TK P N ops Q S fuel (listed.setIfInBounds i true) ((d, u) :: φ) h) : TK P N ops Q S (fuel + 1) listed φ h := by
  obtain ⟨u, hu, hY⟩ := opx_index ho ht hs hx hix Hl hn
  exact TK.take i hi hd hg hdN hc hQ (fun h' _ => hY h') (H u hu)
end
end Go.H

/- Elements of several cells: read, and written in part. -/
set_option linter.unusedVariables false
namespace Go.H
open Go

theorem RelL.setPart {α : Type} {K : Kd α} {z z' : α} {off : Nat} {u : Value} (hz : ∀ us, K.rel z us → off < us.length ∧ K.rel z' (us.set off u)) :
    ∀ {l : List α} {xs : List Value} (_ : RelL K l xs) {i : Nat}, l[i]? = some z → RelL K (l.set i z') (xs.set (i * K.size + off) u)
  | [], _, _, _, hi => by simp at hi
  | y :: l, _, ⟨us, r, e, h1, h2⟩, 0, hi => by
    simp only [List.getElem?_cons_zero, Option.some.injEq] at hi
    subst hi
    obtain ⟨g1, g2⟩ := hz us h1
    refine ⟨us.set off u, r, ?_, g2, h2⟩
    rw [e, Nat.zero_mul, Nat.zero_add, List.set_append_left _ _ g1]
  | y :: l, _, ⟨us, r, e, h1, h2⟩, i + 1, hi => by
    have hv := K.len y us h1
    refine ⟨us, r.set (i * K.size + off) u, ?_, h1, h2.setPart hz (by simpa using hi)⟩
    rw [e, List.set_append_right _ _ (by rw [hv, Nat.add_mul, Nat.one_mul]; omega), hv, show (i + 1) * K.size + off - K.size = i * K.size + off from by rw [Nat.add_mul, Nat.one_mul]; omega]

/-- a pointer to a part of an element -/
def PtF (sz off : Nat) (u v : Value) (i : Nat) : Prop := ∃ p n c, v = .slice (some p) n c ∧ u = .pointer (some (p.add (i * sz + off)))

section
variable {P : Program} {φ : Fr} {h : Heap} {o : Oper} {α : Type} {K : Kd α} {e : Nat} {v : Value} {l : List α}

theorem SL.spot (H : SL K e h v l) {p : Addr} {n c : Nat} (hv : v = .slice (some p) n c) (hl : l ≠ []) : p.spot = none ∧ n = l.length := by
  obtain ⟨q, c', xs, rfl, hr, hc⟩ := H
  simp only [Value.slice.injEq] at hv
  obtain ⟨rfl, rfl, rfl⟩ := hv
  rcases hc with rfl | ⟨p', hp, hsp, _, _⟩
  · exact absurd rfl hl
  · cases hp
    exact ⟨hsp, rfl⟩

theorem opv_fieldE {s : TypeId} {x : Operand} {f n : Nat} {u : Value} {i : Nat} (ho : o.op = .fieldAddr s x f) (hf : fieldOff P s f = some n) (hx : φ.ev x = some u) (hp : PtI K.size u v i) (H : SL K e h v l) (hl : i < l.length) : OpV P φ o h (fun u' h' => PtF K.size n u' v i ∧ h = h') := by
  obtain ⟨p, m, c, hv, rfl⟩ := hp
  obtain ⟨hsp, _⟩ := H.spot hv (by intro h0; subst h0; simp at hl)
  intro a w hev hw'
  unfold fieldOff at hf
  split at hf
  · rename_i fs hu
    split at hf
    · rename_i fd hfd
      split at hf
      · rename_i ti hi
        split at hf
        · cases hf
        · rename_i hz
          cases hf
          refine .inl ⟨.pointer (some ((p.add (i * K.size)).add fd.offset)), w, ?_, Same.refl w, ⟨p, m, c, hv, by rw [add_add _ _ _ hsp]⟩, hw'.symm⟩
          simp [execOp, ho, hev x _ hx, Instr.fieldAt, Instr.sureAddr, run_underlying hu, hfd, fieldPlace, sizeOf, typeInfo, hi, hz]
      · cases hf
    · cases hf
  · cases hf

theorem opv_loadPart {t : TypeId} {x : Operand} {u r : Value} {i off : Nat} {y : α} (ho : o.op = .load t x) (ht : oneCellT P t = true) (hx : φ.ev x = some u) (hp : PtF K.size off u v i) (H : SL K e h v l) (hy : l[i]? = some y) (hr : ∀ us, K.rel y us → us[off]? = some r) : OpV P φ o h (Det r h) := by
  obtain ⟨q, c, xs, rfl, hrr, hc⟩ := H
  obtain ⟨p, n, c', hv, rfl⟩ := hp
  simp only [Value.slice.injEq] at hv
  obtain ⟨rfl, rfl, rfl⟩ := hv
  rcases hc with rfl | ⟨p', hp, hsp, hb, hcell⟩
  · simp at hy
  cases hp
  obtain ⟨us, hrel, hus⟩ := hrr.2.get hy
  exact opv_load ho ht hx (hcell _ _ (hus off r (hr us hrel)))

theorem opv_loadWhole {t : TypeId} {x : Operand} {u : Value} {us : List Value} {i : Nat} {y : α} (ho : o.op = .load t x) (ht : aggT P t = true) (hn : (P.info? t).map (·.size) = some K.size) (hx : φ.ev x = some u) (hp : PtI K.size u v i) (H : SL K e h v l) (hy : l[i]? = some y) (hr : ∀ vs, K.rel y vs → vs = us) : OpV P φ o h (Det (.agg us.toArray) h) := by
  obtain ⟨q, c, xs, rfl, hrr, hc⟩ := H
  obtain ⟨p, n, c', hv, rfl⟩ := hp
  simp only [Value.slice.injEq] at hv
  obtain ⟨rfl, rfl, rfl⟩ := hv
  rcases hc with rfl | ⟨p', hp, hsp, hb, hcell⟩
  · simp at hy
  cases hp
  obtain ⟨vs, hrel, hus⟩ := hrr.2.get hy
  obtain rfl := hr vs hrel
  obtain ⟨ti, hi, hsz⟩ := Option.map_eq_some_iff.1 hn
  intro a w hev hw'
  refine .inl ⟨_, w, ?_, Same.refl w, rfl, hw'.symm⟩
  have hcells : (loadCells (p.add (i * K.size)) ti.size).run P w = .ok vs.toArray w := by
    have := run_loadCells_list (P := P) (w := w) (p.add (i * K.size)) vs (fun j r hj => by
      rw [add_add _ _ _ hsp, cell_hw hw']
      exact hcell _ _ (hus j r hj))
    rw [K.len y vs hrel] at this
    rw [hsz]
    exact this
  have hlv : (loadVar t (p.add (i * K.size))).run P w = .ok (.agg vs.toArray) w := by
    simp [loadVar, run_isAgg ht, sizeOf, typeInfo, hi, hcells]
  simp [execOp, ho, hev x _ hx, Instr.loadAt, Instr.sureAddr, hlv]

theorem opv_storePart {t E : TypeId} {lo : Nat} {x y : Operand} {p u : Value} {i off : Nat} {z z' : α} (ho : o.op = .store t x y) (ht : (P.info? t).map (·.size) = some 1) (hx : φ.ev x = some p) (hp : PtF K.size off p v i) (hy : φ.ev y = some u) (hu1 : u.oneCell' = true) (hz : l[i]? = some z) (hoff : off < K.size) (hz' : ∀ us, K.rel z us → off < us.length ∧ K.rel z' (us.set off u)) (H : Own K E lo h v l) :
    OpV P φ o h (fun r h' => r = undef ∧ Own K E lo h' v (l.set i z') ∧ Chg (fun b => v.ownBlock = some b) h h' ∧ h'.size = h.size) := by
  intro a w hev hw'
  subst hw'
  obtain ⟨xs, ⟨hl, h2⟩, hr⟩ := H
  have hi := (List.getElem?_eq_some_iff.1 hz).1
  rcases h2 with ⟨rfl, hn⟩ | ⟨g, cap, cur, rfl, hb, hg, hnc, hcm, hcs, htk⟩
  · obtain ⟨q, n, c, hv, _⟩ := hp
    simp at hv
  obtain ⟨q, n, c, hv, rfl⟩ := hp
  simp only [Value.slice.injEq, Option.some.injEq] at hv
  obtain ⟨rfl, rfl, rfl⟩ := hv
  have hc : u.cells = #[u] := by cases u <;> first | rfl | cases hu1
  obtain ⟨info, hinf, hsz⟩ := Option.map_eq_some_iff.1 ht
  have hg' : w.heap[g]? = some (.cells cur E (0, 0)) := hg
  have hmul : (i + 1) * K.size ≤ l.length * K.size := Nat.mul_le_mul_right _ hi
  rw [Nat.add_mul, Nat.one_mul] at hmul
  have hcap : l.length * K.size ≤ cap * K.size := Nat.mul_le_mul_right _ hnc
  obtain ⟨j, hj⟩ : ∃ j, i * K.size + off = j := ⟨_, rfl⟩
  have hjcur : j < cur.size := by rw [hcs]; omega
  have hjx : j < xs.length := by rw [hl]; omega
  have hrun := run_storeCells_at P g j E [u] 0 cur w hg' (by simp; omega) (by simpa using hu1)
  rw [hj] at hx
  refine .inr (.inl ⟨w.setRow g (cur.toList.take j ++ [u] ++ cur.toList.drop (j + 1)).toArray, ?_, ⟨rfl, rfl, rfl⟩, rfl, ?_, ?_, by simp [World.setRow]⟩)
  · simp [execOp, ho, hev x _ hx, hev y _ hy, Instr.storeAt, Instr.sureAddr, storeVar, hc, sizeOf, typeInfo, hinf, hsz, add_lit] at hrun ⊢
    simp [hrun]
  · have e0 : (cur.toList.take j ++ [u] ++ cur.toList.drop (j + 1)) = cur.toList.set j u := by
      rw [List.set_eq_take_append_cons_drop, if_pos (by simpa using hjcur)]; simp
    refine ⟨xs.set j u, ⟨by rw [List.length_set, List.length_set]; exact hl, .inr ⟨g, cap, _, by rw [List.length_set], hb, setRow_heap w g _ _ E _ hg', by rw [List.length_set]; exact hnc, hcm, ?_, ?_⟩⟩, ?_⟩
    · rw [e0]; simpa using hcs
    · rw [e0, List.length_set, ← htk, List.take_set]
    · rw [← hj]; exact hr.setPart hz' hz
  · exact (setRow_chg ..).mono (by rintro k _ rfl; rfl)

/-- a part of an element written: the list -/
theorem opS_storePart {t E : TypeId} {x y : Operand} {p u : Value} {n : Int} {off : Nat} {z z' : α} {l' : List α} (ho : o.op = .store t x y) (ht : (P.info? t).map (·.size) = some 1) (hx : φ.ev x = some p) (hp : PtF K.size off p v n.toNat) (hy : φ.ev y = some u) (hu1 : u.oneCell' = true) (hz : idx l n = some z) (hoff : Nat.blt off K.size = true) (hz' : ∀ us, K.rel z us → off < us.length ∧ K.rel z' (us.set off u)) (hs : setF l n z' = some l') (H : (ownO K E v l).holds h) :
    OpV P φ o h (fun r h' => r = undef ∧ Made h [ownO K E v l] (fun _ => [ownO K E v l']) undef h') := by
  unfold setF at hs
  split at hs
  case isFalse => cases hs
  rename_i hi
  cases hs
  have hoff : off < K.size := Nat.le_of_ble_eq_true hoff
  exact (opv_storePart ho ht hx hp hy hu1 (idx_some hz).2.2 hoff hz' H).mono fun r h' ⟨h2, h3, h4, h5⟩ =>
    ⟨h2, Mod.of_chg h4, Sep.one h3 (fun b hb => ⟨(h3.bounds b hb).2, .inr (by simp [ownO]; exact hb.symm)⟩)⟩
end

theorem kII_set0 {k : IntKind} {z : Int × Int} {m : Int} : ∀ us, (kII k).rel z us → 0 < us.length ∧ (kII k).rel (m, z.2) (us.set 0 (.int k m)) := by
  rintro us rfl
  exact ⟨by simp, rfl⟩
theorem kII_set1 {k : IntKind} {z : Int × Int} {m : Int} : ∀ us, (kII k).rel z us → 1 < us.length ∧ (kII k).rel (z.1, m) (us.set 1 (.int k m)) := by
  rintro us rfl
  exact ⟨by simp, rfl⟩
theorem kII_get0 {k : IntKind} {z : Int × Int} : ∀ us, (kII k).rel z us → us[0]? = some (.int k z.1) := by rintro us rfl; rfl
theorem kII_get1 {k : IntKind} {z : Int × Int} : ∀ us, (kII k).rel z us → us[1]? = some (.int k z.2) := by rintro us rfl; rfl
theorem kII_all {k : IntKind} {z : Int × Int} : ∀ us, (kII k).rel z us → us = [.int k z.1, .int k z.2] := by rintro us rfl; rfl
end Go.H

/- A 128-bit complex number made a 64-bit one. -/
set_option linter.unusedVariables false
namespace Go.H
open Go
section
variable {P : Program} {φ : Fr} {h : Heap} {o : Oper}
theorem opv_cnarrow {src dst : TypeId} {x : Operand} {u : Value} {m : Option Nat × Option Nat} {r1 r2 : Option Nat} (ho : o.op = .convert src dst x) (hs : (P.underlying src).isSome = true) (hd : P.underlying dst = some (.complex .f32)) (hx : φ.ev x = some u) (hu : IsC .f64 u m) (e1 : fcv .f64 .f32 m.1 = some r1) (e2 : fcv .f64 .f32 m.2 = some r2) : OpV P φ o h (Cpx .f32 (r1, r2) h) := by
  intro a w hev hw
  obtain ⟨b, c, rfl, hb, hc, hb2, hc2⟩ := hu
  obtain ⟨du, hs'⟩ := Option.isSome_iff_exists.1 hs
  obtain ⟨q1, w1, g1, s1, t1, l1, c1⟩ := f2f_run (P := P) (s := .f64) (j := .f32) (by decide) (b := b) (by rw [hb2]; exact e1) w
  obtain ⟨q2, w2, g2, s2, t2, l2, c2⟩ := f2f_run (P := P) (s := .f64) (j := .f32) (by decide) (b := c) (by rw [hc2]; exact e2) w1
  refine .inl ⟨.complex .f32 q1 q2, w2, ?_, s1.trans s2, ⟨q1, q2, rfl, l1, l2, c1, c2⟩, by rw [t2, t1]; exact hw.symm⟩
  cases du <;> simp [execOp, ho, hev x _ hx, convert, run_underlying hs', run_underlying hd, Conv.complexToComplex, g1, g2]
end
end Go.H

/- Maps from int64 to bool. -/
set_option linter.unusedVariables false
namespace Go.H
open Go

/-- block r holds a map with these entries, in this order -/
def MapH (h : Heap) (r : Nat) (l : List (Int × Bool)) : Prop := ∃ es clock, h[r]? = some (.map es clock) ∧ es.toList.map (fun e => (e.key, e.val)) = l.map (fun p => (Value.int .i64 p.1, Value.bool p.2))

def mapO (r : Nat) (l : List (Int × Bool)) : Thing where
  blks := [some r]
  holds h := MapH h r l
  stable h h' hs hb H := by
    obtain ⟨es, c, h1, h2⟩ := H
    exact ⟨es, c, by rw [hb r (List.mem_singleton.2 rfl)]; exact h1, h2⟩

def mapGet (l : List (Int × Bool)) (k : Int) : Bool := match l.find? (fun p => p.1 == k) with
  | some p => p.2
  | none => false

theorem MapH.lt {h : Heap} {r : Nat} {l : List (Int × Bool)} (H : MapH h r l) : r < h.size := by
  obtain ⟨es, c, h1, _⟩ := H
  exact (Array.getElem?_eq_some_iff.1 h1).1

theorem findNow_pairs (k : Int) : ∀ (es : List MapEntry) (l : List (Int × Bool)) (i : Nat), es.map (fun e => (e.key, e.val)) = l.map (fun p => (Value.int .i64 p.1, Value.bool p.2)) →
    (Instr.findNow (.int .i64) (.int .i64 k) es i = some none ∧ l.find? (fun p => p.1 == k) = none) ∨ ∃ j p, Instr.findNow (.int .i64) (.int .i64 k) es i = some (some (j, .bool p.2)) ∧ l.find? (fun p => p.1 == k) = some p
  | [], [], _, _ => .inl ⟨rfl, rfl⟩
  | [], _ :: _, _, h => by simp at h
  | _ :: _, [], _, h => by simp at h
  | e :: es, p :: l, i, h => by
    simp only [List.map_cons, List.cons.injEq, Prod.mk.injEq] at h
    obtain ⟨⟨h1, h2⟩, h3⟩ := h
    unfold Instr.findNow
    rw [h1]
    have hs : Instr.sameNow (.int .i64) (.int .i64 k) (.int .i64 p.1) = some (k == p.1) := by simp [Instr.sameNow]
    rw [hs]
    by_cases hk : k = p.1
    · subst hk
      refine .inr ⟨i, p, by simp [h2], by simp⟩
    · have e1 : (k == p.1) = false := by simpa using hk
      have e2 : (p.1 == k) = false := by simpa using fun h => hk h.symm
      rw [e1, List.find?_cons, e2]
      exact findNow_pairs k es l (i + 1) h3

section
variable {P : Program} {φ : Fr} {h : Heap} {o : Oper}

theorem opS_makeMap {t : TypeId} (ho : o.op = .makeMap t none) : OpV P φ o h (fun u h' => ∃ r, u = .map (some r) ∧ Made h [] (fun _ => [mapO r []]) undef h') := by
  intro a w hev hw'
  subst hw'
  refine .inl ⟨.map (some w.heap.size), w.alloc (.map #[] 0), ?_, ⟨rfl, rfl, rfl⟩, w.heap.size, rfl, (ext_push _ _).mod _, ?_⟩
  · simp [execOp, ho, Instr.makeMap]
  · refine Sep.one (o := mapO w.heap.size []) ⟨#[], 0, (Go.MapKept.heap_alloc w _).1, rfl⟩ (fun k hk => ?_)
    simp only [Option.some.injEq] at hk
    subst hk
    exact ⟨by show w.heap.size < (w.heap.push _).size; simp, .inl (Nat.le_refl _)⟩

theorem opv_lookup {t kt et : TypeId} {x ix : Operand} {r : Nat} {l : List (Int × Bool)} {n : Int} (ho : o.op = .lookup t x ix false) (ht : P.underlying t = some (.map kt et)) (hk : P.underlying kt = some (.int .i64)) (hz : (P.info? et).bind (·.zero) = some (.bool false)) (hx : φ.ev x = some (.map (some r))) (hi : φ.ev ix = some (.int .i64 n)) (H : MapH h r l) : OpV P φ o h (Det (.bool (mapGet l n)) h) := by
  intro a w hev hw'
  obtain ⟨es, c, h1, h2⟩ := H
  rw [← hw'] at h1
  obtain ⟨ti, hti, htz⟩ := Option.bind_eq_some_iff.1 hz
  refine .inl ⟨_, w, ?_, Same.refl w, rfl, hw'.symm⟩
  have hg : (getObj r).run P w = .ok (.map es c) w := Go.MapKept.run_getObj_map (P := P) h1
  have hc := Go.MapKept.run_checkKey (P := P) (w := w) (k := .int .i64 n) hk rfl es.isEmpty 9999
  rcases findNow_pairs n es.toList l 0 h2 with ⟨g1, g2⟩ | ⟨j, p, g1, g2⟩
  · have hf := Go.MapKept.run_findKey (P := P) (w := w) hk g1
    simp [execOp, ho, hev x _ hx, hev ix _ hi, Instr.lookup, run_underlying ht, hg, hc, hf, zeroValue, typeInfo, hti, htz, mapGet, g2]
  · have hf := Go.MapKept.run_findKey (P := P) (w := w) hk g1
    simp [execOp, ho, hev x _ hx, hev ix _ hi, Instr.lookup, run_underlying ht, hg, hc, hf, mapGet, g2]

theorem opS_mapUpdate {t kt et : TypeId} {m k x : Operand} {r : Nat} {l : List (Int × Bool)} {n : Int} {b : Bool} (ho : o.op = .mapUpdate t m k x) (ht : P.underlying t = some (.map kt et)) (hk : P.underlying kt = some (.int .i64)) (hm : φ.ev m = some (.map (some r))) (hn : φ.ev k = some (.int .i64 n)) (hx : φ.ev x = some (.bool b)) (hf : l.all (fun p => p.1 != n) = true) (H : (mapO r l).holds h) :
    OpV P φ o h (fun u h' => u = undef ∧ Made h [mapO r l] (fun _ => [mapO r (l ++ [(n, b)])]) undef h') := by
  intro a w hev hw'
  subst hw'
  obtain ⟨es, c, h1, h2⟩ := H
  have hlt : r < w.heap.size := (Array.getElem?_eq_some_iff.1 h1).1
  have hg : (getObj r).run P w = .ok (.map es c) w := Go.MapKept.run_getObj_map (P := P) h1
  have hc := Go.MapKept.run_checkKey (P := P) (w := w) (k := .int .i64 n) hk rfl false 9999
  have hno : l.find? (fun p => p.1 == n) = none := by
    rw [List.find?_eq_none]
    intro p hp
    have := List.all_eq_true.1 hf p hp
    simpa using this
  have g1 : Instr.findNow (.int .i64) (.int .i64 n) es.toList 0 = some none := by
    rcases findNow_pairs n es.toList l 0 h2 with ⟨g1, _⟩ | ⟨j, p, _, g2⟩
    · exact g1
    · rw [hno] at g2; cases g2
  have hfk := Go.MapKept.run_findKey (P := P) (w := w) hk g1
  have hset := Go.MapKept.run_setObj_map (P := P) (.map (es.push { key := .int .i64 n, val := .bool b, born := c }) (c + 1)) h1
  obtain ⟨s1, s2⟩ := Go.MapKept.heap_set (o' := .map (es.push { key := .int .i64 n, val := .bool b, born := c }) (c + 1)) h1
  refine .inr (.inl ⟨{ w with heap := w.heap.setIfInBounds r (.map (es.push { key := .int .i64 n, val := .bool b, born := c }) (c + 1)) }, ?_, ⟨rfl, rfl, rfl⟩, rfl, ⟨by simp, fun q hq hn' => s2 q (fun e => hn' (by simp [mapO, e]))⟩, ?_⟩)
  · simp [execOp, ho, hev m _ hm, hev k _ hn, hev x _ hx, Instr.mapUpdate, run_underlying ht, hg, hc, hfk, hset]
  · refine Sep.one (o := mapO r (l ++ [(n, b)])) ⟨_, _, s1, by simp [h2]⟩ (fun q hq => ?_)
    simp only [Option.some.injEq] at hq
    subst hq
    exact ⟨by show r < (w.heap.setIfInBounds r _).size; simpa using hlt, .inr (by simp [mapO])⟩
end
end Go.H

/- Shorter steps of the heap; arithmetic and things made among operations that are taken first; values of array types. -/
set_option linter.unusedVariables false
namespace Go.H
open Go

theorem Sep.turn {B : List (Option Nat)} {h0 h h' : Heap} {A L A' : List Thing} (X : Mod B h0 h) (S : Sep B h0.size h (A ++ L)) (M : Mod (A.flatMap (·.blks)) h h') (T : Sep (A.flatMap (·.blks)) h.size h' A') : Mod B h0 h' ∧ Sep B h0.size h' (A' ++ L) :=
  ⟨Mod.step X S M, Sep.step S X.size M T⟩
theorem Sep.turn0 {B : List (Option Nat)} {h0 h h' : Heap} {L A' : List Thing} (X : Mod B h0 h) (S : Sep B h0.size h L) (M : Mod [] h h') (T : Sep [] h.size h' A') : Mod B h0 h' ∧ Sep B h0.size h' (A' ++ L) :=
  ⟨Mod.step (A := []) X S M, Sep.step (A := []) S X.size M T⟩

section
variable {P : Program} {N : Nat} {φ : Fr} {h : Heap} {o : Oper}

/-- an operation whose guard says yes, and that gives this value -/
theorem RL.yesD {ops : Array Oper} {Q : Exit → Fr → Heap → Prop} {d j t : Nat} {b want : Bool} {op : Op} {ty : TypeId} {ps : String} {af : Array Edge} {l : List Oper} {u : Value}
    (hj : (ops[j]?).bind (·.dst) = some t) (hb : φ.get t = some (.bool b)) (hw : b = want) (hd : d < N) (H : OpV P φ { dst := some d, op := op, type := ty, pos := ps, after := af, guard := some (j, want) } h (Det u h))
    (hn : RL P N ops Q l ((d, u) :: φ) h) :
    RL P N ops Q ({ dst := some d, op := op, type := ty, pos := ps, after := af, guard := some (j, want) } :: l) φ h :=
  RL.yes _ hj hb hw hd H fun _ _ hv => hv.1 ▸ hv.2 ▸ hn
theorem RL.noT {ops : Array Oper} {Q : Exit → Fr → Heap → Prop} {d j t : Nat} {b : Bool} {op : Op} {ty : TypeId} {ps : String} {af : Array Edge} {l : List Oper}
    (hj : (ops[j]?).bind (·.dst) = some t) (hb : φ.get t = some (.bool b)) (hw : b = true) (hd : d < N) (hn : RL P N ops Q l ((d, undef) :: φ) h) :
    RL P N ops Q ({ dst := some d, op := op, type := ty, pos := ps, after := af, guard := some (j, false) } :: l) φ h := RL.no hj hb hw hd hn
theorem RL.noF {ops : Array Oper} {Q : Exit → Fr → Heap → Prop} {d j t : Nat} {b : Bool} {op : Op} {ty : TypeId} {ps : String} {af : Array Edge} {l : List Oper}
    (hj : (ops[j]?).bind (·.dst) = some t) (hb : φ.get t = some (.bool b)) (hw : b = false) (hd : d < N) (hn : RL P N ops Q l ((d, undef) :: φ) h) :
    RL P N ops Q ({ dst := some d, op := op, type := ty, pos := ps, after := af, guard := some (j, true) } :: l) φ h := RL.no hj hb hw hd hn

theorem opx_int {op : BinOp} {t t' : TypeId} {x y : Operand} {k : IntKind} {m n : Int} (ho : o.op = .binOp op t x y t') (hop : op = .add ∨ op = .sub ∨ op = .mul) (hx : φ.ev x = some (.int k m)) (hy : φ.ev y = some (.int k n)) :
    OpX P φ o h (.int k (k.wrap (arith op m n))) := by
  intro a w hev hw
  rcases hop with rfl | rfl | rfl <;> simp [execOp, ho, hev x _ hx, hev y _ hy, eqGuard, binOp, Op.intArith, arith]
theorem opx_add {t t' : TypeId} {x y : Operand} {k : IntKind} {m n : Int} (ho : o.op = .binOp .add t x y t') (hx : φ.ev x = some (.int k m)) (hy : φ.ev y = some (.int k n)) : OpX P φ o h (.int k (k.wrap (m + n))) := opx_int ho (.inl rfl) hx hy
theorem opx_sub {t t' : TypeId} {x y : Operand} {k : IntKind} {m n : Int} (ho : o.op = .binOp .sub t x y t') (hx : φ.ev x = some (.int k m)) (hy : φ.ev y = some (.int k n)) : OpX P φ o h (.int k (k.wrap (m - n))) := opx_int ho (.inr (.inl rfl)) hx hy
theorem opx_mul {t t' : TypeId} {x y : Operand} {k : IntKind} {m n : Int} (ho : o.op = .binOp .mul t x y t') (hx : φ.ev x = some (.int k m)) (hy : φ.ev y = some (.int k n)) : OpX P φ o h (.int k (k.wrap (m * n))) := opx_int ho (.inr (.inr rfl)) hx hy
theorem opx_quo {t t' : TypeId} {x y : Operand} {k : IntKind} {m n : Int} (ho : o.op = .binOp .quo t x y t') (hn : n ≠ 0) (hx : φ.ev x = some (.int k m)) (hy : φ.ev y = some (.int k n)) : OpX P φ o h (.int k (k.wrap (m.tdiv n))) := by
  intro a w hev hw
  simp [execOp, ho, hev x _ hx, hev y _ hy, eqGuard, binOp, Op.intDiv, hn]
theorem opx_rem {t t' : TypeId} {x y : Operand} {k : IntKind} {m n : Int} (ho : o.op = .binOp .rem t x y t') (hn : n ≠ 0) (hx : φ.ev x = some (.int k m)) (hy : φ.ev y = some (.int k n)) : OpX P φ o h (.int k (m.tmod n)) := by
  intro a w hev hw
  simp [execOp, ho, hev x _ hx, hev y _ hy, eqGuard, binOp, Op.intDiv, hn]
theorem opx_icmp {op : BinOp} {t t' : TypeId} {x y : Operand} {k : IntKind} {m n : Int} (ho : o.op = .binOp op t x y t') (hop : (match op with | .eql | .neq | .lss | .leq | .gtr | .geq => true | _ => false) = true) (hx : φ.ev x = some (.int k m)) (hy : φ.ev y = some (.int k n)) :
    OpX P φ o h (.bool (icmp op m n)) := by
  intro a w hev hw
  cases op <;> simp at hop <;> simp [execOp, ho, hev x _ hx, hev y _ hy, eqGuard, binOp, Op.intCmp, icmp]

/-- the only one that may come, and that gives a value -/
theorem TK.stepD {Q : Exit → Fr → Heap → Prop} {ops : List Oper} {S : Heap → Prop} (i : Nat) {o : Oper} {d : Nat} {fuel : Nat} {listed : Array Bool} (K : Value → Heap → Prop) (hi : ops[i]? = some o) (hd : o.dst = some d) (hg : o.guard = none) (hdN : d < N)
    (hr : (Region.ready .any ops.toArray listed == [i]) = true) (hV : OpV P φ o h K) (H : ∀ v h', K v h' → S h' ∧ TK P N ops Q S fuel (listed.setIfInBounds i true) ((d, v) :: φ) h') : TK P N ops Q S (fuel + 1) listed φ h := by
  intro w0 a w hs hw ho hS
  have hr' : Region.ready .any ops.toArray listed = [i] := by simpa using hr
  refine wpAnyH_all hr' (by simp) (fun j hj => ?_)
  have hj : j = i := by simpa using hj
  subst hj
  have hi' : ops.toArray[j]? = some o := by simpa using hi
  unfold wpOp
  rw [hi']
  simp only
  rw [if_pos (by simp [Region.wanted, hg])]
  refine .inl (OpV.wp hV ho hw hs fun v w' hs' hk => ?_)
  rw [hd]
  obtain ⟨h1, h2⟩ := H v w'.heap hk
  exact ⟨h1, h2 w0 _ w' hs' rfl (ho.put' hdN) h1⟩

/-- the zero's cells of an array, and where its elements lie -/
def bldArr (P : Program) (t : TypeId) : Option (List Value × List (Nat × Nat)) :=
  match P.info? t, P.underlying t with
  | some it, some (.array n e) =>
    match it.zero, P.info? e with
    | some z, some ie => some (z.cells.toList, (List.range n).map fun i => (i * ie.size, ie.size))
    | _, _ => none
  | _, _ => none

theorem fill_total {f g : Nat → Option (Nat × Nat)} (hfg : ∀ i q, f i = some q → g i = some q) : ∀ {vs : List (Nat × Value)} {cs r : Array Value}, Instr.fill f cs vs = some r → Instr.fill g cs vs = some r
  | [], _, _, h => h
  | (i, v) :: vs, cs, r, h => by
    unfold Instr.fill at h ⊢
    cases hf : f i with
    | none => rw [hf] at h; cases h
    | some q =>
      rw [hf] at h
      rw [hfg i q hf]
      simp only at h ⊢
      split at h
      · cases h
      · rename_i hn
        rw [if_neg hn]
        exact fill_total hfg h

theorem opv_buildArr {t : TypeId} {xs : List (Nat × Operand)} {zs cs : List Value} {places : List (Nat × Nat)} (r : List (Nat × List Value)) (vs : List (Nat × Value)) (ho : o.op = .build t xs.toArray) (hb : bldArr P t = some (zs, places)) (hp : partsOK φ xs r vs) (hf : fillL places zs r = some cs) : OpV P φ o h (Det (.agg cs.toArray) h) := by
  intro a w hev hw
  refine .inl ⟨_, w, ?_, Same.refl w, rfl, hw.symm⟩
  have hbt : P.built t vs = some cs.toArray := by
    unfold bldArr at hb
    unfold Program.built
    split at hb
    · rename_i it n e h1 h2
      split at hb
      · rename_i z ie h3 h4
        cases hb
        simp only [h1, h2, h3, h4]
        have := fill_of hp hf
        refine fill_total ?_ (by simpa using this)
        intro i q hq
        have hq : ((List.range n).map fun i => (i * ie.size, ie.size))[i]? = some q := by simpa using hq
        rw [List.getElem?_map] at hq
        by_cases hi : i < n
        · simp only [List.getElem?_range hi, Option.map_some] at hq
          exact hq
        · rw [List.getElem?_eq_none (by simpa using hi)] at hq; cases hq
      · cases hb
    · cases hb
  have hm := partsOK.map (a := a) hev hp
  have hm' : (xs.toArray.map fun (x : Nat × Operand) => (x.1, a.eval x.2)).toList = vs := by simp [hm]
  have := run_build w t (xs.toArray.map fun (x : Nat × Operand) => (x.1, a.eval x.2)) cs.toArray (by rw [hm']; exact hbt)
  simp [execOp, ho] at this ⊢
  simp [this]

def arrLen (P : Program) (t : TypeId) : Option (Nat × TypeId) := match P.underlying t with
  | some (.array n e) => some (n, e)
  | _ => none
theorem arrLen_spec {t : TypeId} {n : Nat} {e : TypeId} (h : arrLen P t = some (n, e)) : P.underlying t = some (.array n e) := by
  unfold arrLen at h
  split at h
  · rename_i h2; cases h; exact h2
  · cases h

theorem flat2_get (l : List (Int × Int)) (j : Nat) {y : Int × Int} (hy : l[j]? = some y) : ((l.flatMap (fun p => [Value.int .i64 p.1, Value.int .i64 p.2])).drop (j * 2)).take 2 = [Value.int .i64 y.1, Value.int .i64 y.2] := by
  induction l generalizing j with
  | nil => cases hy
  | cons p l ih =>
    cases j with
    | zero => simp at hy; subst hy; simp
    | succ j =>
      have := ih j (by simpa using hy)
      rw [show (j + 1) * 2 = j * 2 + 2 by omega]
      simpa using this

/-- an element of an array of pairs -/
theorem opv_indexII {L : List (Int × Int)} {t E : TypeId} {len : Nat} {x i : Operand} {k : IntKind} {n : Int} {y : Int × Int} {cs : List Value} (ho : o.op = .index t x i) (ht : arrLen P t = some (len, E)) (hE : aggT P E = true) (hs : (P.info? E).map (·.size) = some 2) (hx : φ.ev x = some (.agg cs.toArray)) (hc : cs = L.flatMap (fun p => [Value.int .i64 p.1, Value.int .i64 p.2])) (hl : L.length = len) (hi : φ.ev i = some (.int k n)) (hn : idx L n = some y) : OpV P φ o h (Det (.agg [Value.int .i64 y.1, Value.int .i64 y.2].toArray) h) := by
  intro a w hev hw
  refine .inl ⟨_, w, ?_, Same.refl w, rfl, hw.symm⟩
  obtain ⟨h0, h1, h2⟩ := idx_some hn
  obtain ⟨info, hinfo, hsz⟩ := Option.map_eq_some_iff.1 hs
  have hf := flat2_get L n.toNat h2
  have hu := arrLen_spec ht
  subst hc
  have h1' : n < (len : Int) := by omega
  have he : ((L.flatMap (fun p => [Value.int .i64 p.1, Value.int .i64 p.2])).toArray).extract (n.toNat * 2) (n.toNat * 2 + 2) = [Value.int .i64 y.1, Value.int .i64 y.2].toArray := by
    rw [← hf, List.extract_toArray, List.extract_eq_take_drop]
    congr 2
    omega
  simp only [execOp, ho, hev x _ hx, hev i _ hi]
  simp [Instr.index, asIntOf, run_underlying hu, h0, h1', sizeOf, typeInfo, hinfo, hsz, part, run_isAgg hE]
  simpa using he

/-- the address of an array's element -/
theorem opv_indexArr {t E : TypeId} {len sz : Nat} {x i : Operand} {k : IntKind} {n : Nat} {b off : Nat} (ho : o.op = .indexAddr t x i) (ht : arrLen P t = some (len, E)) (hs : (P.info? E).map (·.size) = some sz) (hx : φ.ev x = some (.pointer (some ⟨b, off, none⟩))) (hi : φ.ev i = some (.int k (n : Int))) (hn : Nat.blt n len = true) : OpV P φ o h (Det (.pointer (some ⟨b, off + n * sz, none⟩)) h) := by
  intro a w hev hw
  refine .inl ⟨_, w, ?_, Same.refl w, rfl, hw.symm⟩
  obtain ⟨info, hinfo, hsz⟩ := Option.map_eq_some_iff.1 hs
  have hu := arrLen_spec ht
  have hlt : n < len := Nat.le_of_ble_eq_true hn
  have h1 : (0 : Int) ≤ (n : Int) ∧ (n : Int) < (len : Int) := ⟨by omega, by omega⟩
  simp [execOp, ho, hev x _ hx, hev i _ hi, Instr.indexAt, Instr.sureAddr, asIntOf, run_underlying hu, h1, sizeOf, typeInfo, hinfo, hsz, add_lit, hlt]
end
end Go.H

/- Literals of several elements of one cell each. -/
set_option linter.unusedVariables false
namespace Go.H
open Go

section
variable {P : Program} {N : Nat} {φ : Fr} {h : Heap} {o : Oper}

theorem RelL.ints {k : IntKind} : ∀ zs : List Int, RelL (kI k) zs (zs.map fun z => Value.int k z)
  | [] => rfl
  | z :: zs => ⟨[Value.int k z], zs.map (fun z => Value.int k z), rfl, rfl, RelL.ints zs⟩

theorem range_cells (n : Nat) (q : Value) : ((Array.range n).map (fun i => #[q][i % 1]!)) = (List.replicate n q).toArray := by
  have h : (fun i => #[q][i % 1]!) = fun _ : Nat => q := by
    funext i
    rw [Nat.mod_one]; rfl
  rw [h]
  apply Array.ext
  · simp
  · intro i h1 h2; simp

/-- a literal of several elements of one cell each -/
theorem opS_litN {α : Type} {K : Kd α} {t E : TypeId} {len b : Nat} {xs : List (Nat × Operand)} {us : List Value} {zs : List α} {zz q : Value} (r : List (Nat × List Value)) (vs : List (Nat × Value)) (ho : o.op = .buildSlice t len xs.toArray) (ht : P.underlying t = some (.slice E)) (hinf : elemInfo P E = some (zz, 1, b)) (hzz : zz.cells = #[q]) (hsm : (Nat.ble 1 len && Nat.ble len 1000) = true)
    (hp : partsOK φ xs r vs) (hf : fillL ((List.range len).map fun i => (i, 1)) (List.replicate len q) r = some us) (h1 : K.size = 1) (hz : RelL K zs us) (hzl : zs.length = len) (hul : us.length = len) :
    OpV P φ o h (Made h [] (fun v => [ownO K E v zs])) := by
  intro a w hev hw'
  subst hw'
  obtain ⟨i, hi, hzr, hs, _⟩ := elemInfo_some hinf
  rw [Bool.and_eq_true] at hsm
  have hs1 := Nat.le_of_ble_eq_true hsm.1
  have hs2 := Nat.le_of_ble_eq_true hsm.2
  have hm := partsOK.map (a := a) hev hp
  have hm' : (xs.toArray.map fun (x : Nat × Operand) => (x.1, a.eval x.2)).toList = vs := by simp [hm]
  have hfill : Instr.fill (fun i => some (i * 1, 1)) ((Array.range len).map (fun i => zz.cells[i % zz.cells.size]!)) vs = some us.toArray := by
    rw [hzz]
    show Instr.fill _ ((Array.range len).map (fun i => #[q][i % 1]!)) vs = _
    rw [range_cells]
    have := fill_of hp hf
    refine fill_total ?_ this
    intro i p hp'
    have hp' : ((List.range len).map fun i => (i, 1))[i]? = some p := by simpa using hp'
    rw [List.getElem?_map] at hp'
    by_cases hl : i < len
    · rw [List.getElem?_range hl, Option.map_some] at hp'
      rw [Nat.mul_one]; exact hp'
    · rw [List.getElem?_eq_none (by simpa using hl)] at hp'; cases hp'
  have hbig : ¬ (16777216 < len) := by omega
  have hn0 : len ≠ 0 := by omega
  have hrun : (execOp a.eval o).run P w = .ok (.value (.slice (some ⟨w.heap.size, 0, none⟩) len len)) (w.alloc (.cells us.toArray E)) := by
    simp [execOp, ho, Instr.buildSlice, run_underlying ht, sizeOf, typeInfo, hi, hs, zeroValue, hzr, newRow, hbig, hn0]
    simp [hm, Nat.mul_one] at hfill ⊢
    simp [hfill]
  refine .inl ⟨_, _, hrun, ⟨rfl, rfl, rfl⟩, (ext_push _ _).mod _, ?_⟩
  have hnew : (w.alloc (.cells us.toArray E)).heap[w.heap.size]? = some (.cells us.toArray E (0, 0)) := heap_alloc_new w _
  have hown : Own K E 0 (w.alloc (.cells us.toArray E)).heap (.slice (some ⟨w.heap.size, 0, none⟩) len len) zs := by
    refine ⟨us, ⟨by simp [hul, hzl, h1], .inr ⟨w.heap.size, len, us.toArray, by rw [hzl], Nat.zero_le _, hnew, by omega, by simp only [maxLen]; omega, by simp [hul, h1], by rw [hzl, h1, Nat.mul_one]; simp [← hul]⟩⟩, hz⟩
  exact Sep.one (x := some w.heap.size) hown (fun b hb => by
    cases hb
    exact ⟨by show w.heap.size < (w.heap.push _).size; simp, .inl (Nat.le_refl _)⟩)
end
end Go.H

/- Regions that draw their order and turn nothing: walked as a tree. -/
set_option linter.unusedVariables false
namespace Go.H
open Go

section
variable {P : Program} {N : Nat} {Q : Exit → Fr → Heap → Prop} {ops : List Oper} {φ : Fr} {h : Heap} {o : Oper}

/-- the heap stays as it is -/
def HK (P : Program) (N : Nat) (ops : List Oper) (Q : Exit → Fr → Heap → Prop) (fuel : Nat) (listed : Array Bool) (φ : Fr) (h : Heap) : Prop :=
  TK P N ops Q (fun h' => h' = h) fuel listed φ h

theorem W.regionH {id : Nat} (n : Nat) (hn : ops.length = n) (hm : P.follows .mixedOrders = true) (H : HK P N ops Q n (Array.replicate n false) φ h) : W P N (.region id ops.toArray true) Q φ h :=
  W.regionT n (fun h' => h' = h) hn hm rfl H

/-- number 'i' may come first -/
def hkOK (ops : List Oper) (listed : Array Bool) (i : Nat) : Bool := Region.noSelect ops.toArray && Region.free .any ops.toArray listed i && (Region.ready .any ops.toArray listed).contains i

theorem HK.gen (i : Nat) {d : Nat} {u : Value} {fuel : Nat} {listed : Array Bool} (hi : ops[i]? = some o) (hd : o.dst = some d) (hdN : d < N) (hc : hkOK ops listed i = true) (hQ : ∀ c φ h, ¬ Q (.panic c) φ h)
    (hY : ∀ (a : Act) (w : World), Ok N φ a → w.heap = h → (Region.wanted o (yielded ops.toArray a.tmps) = true ∧ (execOp a.eval o).run P w = .ok (.value u) w) ∨ (Region.wanted o (yielded ops.toArray a.tmps) = false ∧ u = undef))
    (H : HK P N ops Q fuel (listed.setIfInBounds i true) ((d, u) :: φ) h) : HK P N ops Q (fuel + 1) listed φ h := by
  intro w0 a w hs hw ho hS
  unfold hkOK at hc
  simp only [Bool.and_eq_true] at hc
  have hi' : ops.toArray[i]? = some o := by simpa using hi
  refine wpAnyH_take (v := u) hi' hc.1.1 hc.1.2 hc.2 (fun c a w hq => ?_) ?_ (by rw [hw]) ?_
  · obtain ⟨_, ψ, _, hq⟩ := hq
    exact absurd hq (hQ c ψ _)
  · rcases hY a w ho hw with ⟨h1, _⟩ | ⟨h1, h2⟩
    · refine .inl ⟨h1, fun w' hS' => ?_⟩
      rcases hY a w' ho hS' with ⟨_, h3⟩ | ⟨h3, _⟩
      · exact h3
      · rw [h1] at h3; cases h3
    · exact .inr ⟨h1, h2⟩
  · rw [hd]
    exact H w0 _ w hs hw (ho.put' hdN) hS

theorem wanted_none {a : Act} (hg : o.guard = none) : Region.wanted o (yielded ops.toArray a.tmps) = true := by simp [Region.wanted, hg]
theorem yielded_of {a : Act} {j t : Nat} {b : Bool} (ho : Ok N φ a) (hj : (ops[j]?).bind (·.dst) = some t) (hb : φ.get t = some (.bool b)) : yielded ops.toArray a.tmps j = some b := by
  unfold yielded
  have : (ops.toArray[j]?).bind (·.dst) = some t := by simpa using hj
  rw [this]
  simp [ho.slot t _ hb]

theorem HK.d (i : Nat) {d : Nat} {u : Value} {fuel : Nat} {listed : Array Bool} (hi : ops[i]? = some o) (hd : o.dst = some d) (hg : o.guard = none) (hdN : d < N) (hc : hkOK ops listed i = true) (hQ : ∀ c φ h, ¬ Q (.panic c) φ h)
    (hY : OpX P φ o h u) (H : HK P N ops Q fuel (listed.setIfInBounds i true) ((d, u) :: φ) h) : HK P N ops Q (fuel + 1) listed φ h :=
  HK.gen i hi hd hdN hc hQ (fun a w ho hw => .inl ⟨wanted_none hg, hY a w (fun x v => ho.eval) hw⟩) H
theorem HK.f (i : Nat) {d : Nat} {R : Value → Prop} {fuel : Nat} {listed : Array Bool} (hi : ops[i]? = some o) (hd : o.dst = some d) (hg : o.guard = none) (hdN : d < N) (hc : hkOK ops listed i = true) (hQ : ∀ c φ h, ¬ Q (.panic c) φ h)
    (hY : ∃ u, R u ∧ OpX P φ o h u) (H : ∀ u, R u → HK P N ops Q fuel (listed.setIfInBounds i true) ((d, u) :: φ) h) : HK P N ops Q (fuel + 1) listed φ h := by
  obtain ⟨u, hu, hx⟩ := hY
  exact HK.d i hi hd hg hdN hc hQ hx (H u hu)
theorem HK.y (i : Nat) {d j t : Nat} {b want : Bool} {u : Value} {fuel : Nat} {listed : Array Bool} (hi : ops[i]? = some o) (hd : o.dst = some d) (hg : o.guard = some (j, want)) (hj : (ops[j]?).bind (·.dst) = some t) (hb : φ.get t = some (.bool b)) (hw : b = want) (hdN : d < N) (hc : hkOK ops listed i = true) (hQ : ∀ c φ h, ¬ Q (.panic c) φ h)
    (hY : OpX P φ o h u) (H : HK P N ops Q fuel (listed.setIfInBounds i true) ((d, u) :: φ) h) : HK P N ops Q (fuel + 1) listed φ h :=
  HK.gen i hi hd hdN hc hQ (fun a w ho hwh => .inl ⟨by simp [Region.wanted, hg, yielded_of ho hj hb, hw], hY a w (fun x v => ho.eval) hwh⟩) H
theorem HK.yf (i : Nat) {d j t : Nat} {b want : Bool} {R : Value → Prop} {fuel : Nat} {listed : Array Bool} (hi : ops[i]? = some o) (hd : o.dst = some d) (hg : o.guard = some (j, want)) (hj : (ops[j]?).bind (·.dst) = some t) (hb : φ.get t = some (.bool b)) (hw : b = want) (hdN : d < N) (hc : hkOK ops listed i = true) (hQ : ∀ c φ h, ¬ Q (.panic c) φ h)
    (hY : ∃ u, R u ∧ OpX P φ o h u) (H : ∀ u, R u → HK P N ops Q fuel (listed.setIfInBounds i true) ((d, u) :: φ) h) : HK P N ops Q (fuel + 1) listed φ h := by
  obtain ⟨u, hu, hx⟩ := hY
  exact HK.y i hi hd hg hj hb hw hdN hc hQ hx (H u hu)
theorem HK.n (i : Nat) {d j t : Nat} {b want : Bool} {fuel : Nat} {listed : Array Bool} (hi : ops[i]? = some o) (hd : o.dst = some d) (hg : o.guard = some (j, want)) (hj : (ops[j]?).bind (·.dst) = some t) (hb : φ.get t = some (.bool b)) (hw : b = !want) (hdN : d < N) (hc : hkOK ops listed i = true) (hQ : ∀ c φ h, ¬ Q (.panic c) φ h)
    (H : HK P N ops Q fuel (listed.setIfInBounds i true) ((d, undef) :: φ) h) : HK P N ops Q (fuel + 1) listed φ h :=
  HK.gen i hi hd hdN hc hQ (fun a w ho hwh => .inr ⟨by
    have hne : ¬ b = want := by rw [hw]; cases want <;> simp
    simp [Region.wanted, hg, yielded_of ho hj hb, hne], rfl⟩) H
theorem HK.u (i : Nat) {d j t : Nat} {want : Bool} {fuel : Nat} {listed : Array Bool} (hi : ops[i]? = some o) (hd : o.dst = some d) (hg : o.guard = some (j, want)) (hj : (ops[j]?).bind (·.dst) = some t) (hb : φ.get t = some undef) (hdN : d < N) (hc : hkOK ops listed i = true) (hQ : ∀ c φ h, ¬ Q (.panic c) φ h)
    (H : HK P N ops Q fuel (listed.setIfInBounds i true) ((d, undef) :: φ) h) : HK P N ops Q (fuel + 1) listed φ h :=
  HK.gen i hi hd hdN hc hQ (fun a w ho hwh => .inr ⟨by
    have hy : yielded ops.toArray a.tmps j = none := by
      unfold yielded
      have : (ops.toArray[j]?).bind (·.dst) = some t := by simpa using hj
      rw [this]
      simp [ho.slot t _ hb, undef]
    simp [Region.wanted, hg, hy], rfl⟩) H

/-- the only one that may come: a call, arithmetic of floats -/
theorem HK.s (i : Nat) {d : Nat} {fuel : Nat} {listed : Array Bool} (K : Value → Heap → Prop) (hi : ops[i]? = some o) (hd : o.dst = some d) (hg : o.guard = none) (hdN : d < N)
    (hr : (Region.ready .any ops.toArray listed == [i]) = true) (hV : OpV P φ o h K) (H : ∀ v h', K v h' → h' = h ∧ HK P N ops Q fuel (listed.setIfInBounds i true) ((d, v) :: φ) h) : HK P N ops Q (fuel + 1) listed φ h :=
  TK.stepD i K hi hd hg hdN hr hV fun v h' hk => by
    obtain ⟨rfl, h2⟩ := H v h' hk
    exact ⟨rfl, h2⟩
theorem HK.sy (i : Nat) {d j t : Nat} {b want : Bool} {fuel : Nat} {listed : Array Bool} (K : Value → Heap → Prop) (hi : ops[i]? = some o) (hd : o.dst = some d) (hg : o.guard = some (j, want)) (hj : (ops[j]?).bind (·.dst) = some t) (hb : φ.get t = some (.bool b)) (hw : b = want) (hdN : d < N)
    (hr : (Region.ready .any ops.toArray listed == [i]) = true) (hV : OpV P φ o h K) (H : ∀ v h', K v h' → h' = h ∧ HK P N ops Q fuel (listed.setIfInBounds i true) ((d, v) :: φ) h) : HK P N ops Q (fuel + 1) listed φ h := by
  intro w0 a w hs hwh ho hS
  have hr' : Region.ready .any ops.toArray listed = [i] := by simpa using hr
  refine wpAnyH_all hr' (by simp) (fun k hk => ?_)
  have hk : k = i := by simpa using hk
  subst hk
  have hi' : ops.toArray[k]? = some o := by simpa using hi
  unfold wpOp
  rw [hi']
  simp only
  rw [if_pos (by simp [Region.wanted, hg, yielded_of ho hj hb, hw])]
  refine .inl (OpV.wp hV ho hwh hs fun v w' hs' hk => ?_)
  rw [hd]
  obtain ⟨h1, h2⟩ := H v w'.heap hk
  exact ⟨h1, h2 w0 _ w' hs' h1 (ho.put' hdN) rfl⟩

theorem HK.done {fuel : Nat} {listed : Array Bool} (hr : (Region.ready .any ops.toArray listed == []) = true) (H : Q .normal φ h) : HK P N ops Q fuel listed φ h := TK.done hr H

theorem opx_fcmp {op : BinOp} {t t' : TypeId} {x y : Operand} {k : FloatKind} {u v : Value} {m n : Option Nat} (ho : o.op = .binOp op t x y t') (hop : (match op with | .eql | .neq | .lss | .leq | .gtr | .geq => true | _ => false) = true) (hx : φ.ev x = some u) (hy : φ.ev y = some v)
    (hu : IsF k u m) (hv : IsF k v n) : OpX P φ o h (.bool (fcmp op k m n)) := by
  intro a w hev hw
  obtain ⟨b, rfl, _, rfl⟩ := hu
  obtain ⟨c, rfl, _, rfl⟩ := hv
  cases op <;> simp at hop <;> simp [execOp, ho, hev x _ hx, hev y _ hy, eqGuard, binOp, Op.floatCmp, fcmp, feq, flt, fle, order_cls] <;> rfl
theorem opx_not {t : TypeId} {x : Operand} {b : Bool} (ho : o.op = .unOp .not t x) (hx : φ.ev x = some (.bool b)) : OpX P φ o h (.bool (!b)) := by
  intro a w hev hw
  simp [execOp, ho, hev x _ hx, Op.unary]
theorem opx_ineg {t : TypeId} {x : Operand} {k : IntKind} {n : Int} (ho : o.op = .unOp .neg t x) (hx : φ.ev x = some (.int k n)) : OpX P φ o h (.int k (k.wrap (0 - n))) := by
  intro a w hev hw
  simp [execOp, ho, hev x _ hx, Op.unary, Op.intArith]
theorem opx_pick {c x y : Operand} {b : Bool} {u v : Value} (ho : o.op = .pick c x y) (hc : φ.ev c = some (.bool b)) (hx : b = true → φ.ev x = some u) (hy : b = false → φ.ev y = some u) (hv : v = u) : OpX P φ o h v := by
  intro a w hev hw
  subst hv
  cases b with
  | true => simp [execOp, ho, hev c _ hc, hev x v (hx rfl), asBool]
  | false => simp [execOp, ho, hev c _ hc, hev y v (hy rfl), asBool]
theorem opx_extract {x : Operand} {n : Nat} {vs : List Value} {u : Value} (ho : o.op = .extract x n) (hx : φ.ev x = some (.tuple vs.toArray)) (hu : vs[n]? = some u) : OpX P φ o h u := by
  intro a w hev hw
  simp [execOp, ho, hev x _ hx, Instr.extract, hu]
theorem opx_i2i {src dst : TypeId} {x : Operand} {k j : IntKind} {n : Int} (ho : o.op = .convert src dst x) (hs : (P.underlying src).isSome = true) (hd : P.underlying dst = some (.int j)) (hx : φ.ev x = some (.int k n)) : OpX P φ o h (.int j (j.wrap n)) := by
  intro a w hev hw
  obtain ⟨u, hs'⟩ := Option.isSome_iff_exists.1 hs
  cases u <;> simp [execOp, ho, hev x _ hx, convert, run_underlying hs', run_underlying hd, Conv.intToInt]
theorem opx_bcmp {op : BinOp} {t t' : TypeId} {x y : Operand} {m n : Bool} (ho : o.op = .binOp op t x y t') (hop : (match op with | .eql | .neq => true | _ => false) = true) (ht : P.underlying t = some .bool) (hx : φ.ev x = some (.bool m)) (hy : φ.ev y = some (.bool n)) : OpX P φ o h (.bool (bcmp op m n)) := by
  intro a w hev hw
  have he : (Op.equal t (.bool m) (.bool n)).run P w = .ok (m == n) w := by
    show (Op.equalIn (9999 + 1) t (.bool m) (.bool n)).run P w = _
    unfold Op.equalIn
    simp only [Sem.run_bind, run_underlying ht, Result.andThen_ok]
    rfl
  have h1 : (binOp .eql t (.bool m) (.bool n)).run P w = .ok (.bool (m == n)) w := by
    show (do pure (Value.bool (← Op.equal t (.bool m) (.bool n))) : Sem Value).run P w = _
    simp only [Sem.run_bind, he, Result.andThen_ok]
    rfl
  have h2 : (binOp .neq t (.bool m) (.bool n)).run P w = .ok (.bool (!(m == n))) w := by
    show (do pure (Value.bool (!(← Op.equal t (.bool m) (.bool n)))) : Sem Value).run P w = _
    simp only [Sem.run_bind, he, Result.andThen_ok]
    rfl
  have g1 : ∀ op, (eqGuard op t x y (.bool m) (.bool n)).run P w = .ok () w := fun op => by cases op <;> rfl
  cases op <;> simp at hop
  · simp only [execOp, ho, hev x _ hx, hev y _ hy, Sem.run_bind, g1, Result.andThen_ok, h1]; rfl
  · simp only [execOp, ho, hev x _ hx, hev y _ hy, Sem.run_bind, g1, Result.andThen_ok, h2]; rfl
theorem opx_loadA {t : TypeId} {x : Operand} {n b k : Nat} {cs us : List Value} (ho : o.op = .load t x) (ht : aggT P t = true) (hn : (P.info? t).map (·.size) = some n) (hx : φ.ev x = some (.pointer (some ⟨b, k, none⟩))) (H : Bx h b cs) (hus : (cs.drop k).take n = us) (hl : us.length = n) : OpX P φ o h (.agg us.toArray) := by
  intro a w hev hw'
  simp [execOp, ho, hev x _ hx, Instr.loadAt, Instr.sureAddr, run_loadVar_agg ht hn H hus hl hw']
theorem opx_len {α : Type} {K : Kd α} {e : Nat} {v : Value} {l : List α} {t E : TypeId} {x : Operand} (ho : o.op = .call { callee := .builtin .len, args := #[x], argTypes := #[t] }) (ht : P.underlying t = some (.slice E)) (hx : φ.ev x = some v) (H : SL K e h v l) : OpX P φ o h (.int .i64 l.length) := by
  intro a w hev hw
  obtain ⟨p, c, xs, rfl, _, _⟩ := H
  simp [execOp, ho, resolve, hev x _ hx, invoke, builtin, Builtin.len_, run_underlying ht, goInt]
theorem opx_loadE {α : Type} {K : Kd α} {e : Nat} {v : Value} {l : List α} {t : TypeId} {x : Operand} {u : Value} {i : Nat} {y : α} (ho : o.op = .load t x) (ht : oneCellT P t = true) (h1 : K.size = 1) (hx : φ.ev x = some u) (hp : PtI K.size u v i) (H : SL K e h v l) (hy : l[i]? = some y) : ∃ r, K.rel y [r] ∧ OpX P φ o h r := by
  obtain ⟨a, r, rfl, hc, hr⟩ := H.cell1 h1 hp hy
  refine ⟨r, hr, fun a' w hev hw' => ?_⟩
  have := run_loadVar_one (P := P) ht (w := w) (a := a) (v := r) (by rw [cell_hw hw']; exact hc)
  simp [execOp, ho, hev x _ hx, Instr.loadAt, Instr.sureAddr, this]
theorem opx_loadF {k : FloatKind} {l : List (Option Nat)} {e : Nat} {v : Value} {t : TypeId} {x : Operand} {u : Value} {n : Int} {y : Option Nat} (ho : o.op = .load t x) (ht : oneCellT P t = true) (hx : φ.ev x = some u) (hp : PtI 1 u v n.toNat) (H : SL (kF k) e h v l) (hy : idx l n = some y) : ∃ r, IsF k r y ∧ OpX P φ o h r := by
  obtain ⟨r, ⟨w, hw, hf⟩, h2⟩ := opx_loadE (K := kF k) ho ht rfl hx hp H (idx_some hy).2.2
  simp at hw; subst hw
  exact ⟨r, hf, h2⟩
theorem opx_loadI {k : IntKind} {l : List Int} {e : Nat} {v : Value} {t : TypeId} {x : Operand} {u : Value} {n : Int} {y : Int} (ho : o.op = .load t x) (ht : oneCellT P t = true) (hx : φ.ev x = some u) (hp : PtI 1 u v n.toNat) (H : SL (kI k) e h v l) (hy : idx l n = some y) : OpX P φ o h (.int k y) := by
  obtain ⟨r, hw, h2⟩ := opx_loadE (K := kI k) ho ht rfl hx hp H (idx_some hy).2.2
  change [r] = [.int k y] at hw
  simp at hw; subst hw
  exact h2
theorem opx_loadBl {l : List Bool} {e : Nat} {v : Value} {t : TypeId} {x : Operand} {u : Value} {n : Int} {y : Bool} (ho : o.op = .load t x) (ht : oneCellT P t = true) (hx : φ.ev x = some u) (hp : PtI 1 u v n.toNat) (H : SL kB e h v l) (hy : idx l n = some y) : OpX P φ o h (.bool y) := by
  obtain ⟨r, hw, h2⟩ := opx_loadE (K := kB) ho ht rfl hx hp H (idx_some hy).2.2
  change [r] = [.bool y] at hw
  simp at hw; subst hw
  exact h2
theorem opx_indexP {α : Type} {K : Kd α} {e : Nat} {v : Value} {l : List α} {t E : TypeId} {x i : Operand} {k : IntKind} {n : Int} {y : α} (ho : o.op = .indexAddr t x i) (ht : P.underlying t = some (.slice E)) (hs : (P.info? E).map (·.size) = some K.size) (hx : φ.ev x = some v) (hi : φ.ev i = some (.int k n)) (H : SL K e h v l) (hn : idx l n = some y) :
    ∃ u, PtI K.size u v n.toNat ∧ OpX P φ o h u := by
  obtain ⟨u, h1, h2⟩ := opx_index (φ := φ) ho ht hs hx hi H hn
  exact ⟨u, h1, h2 h⟩
end
end Go.H

/- Regions that draw their order: two loads of which either may come first; a list of one's own that is cut. -/
set_option linter.unusedVariables false
namespace Go.H
open Go

section
variable {P : Program} {N : Nat} {φ : Fr} {h : Heap} {o : Oper}

theorem OpX.det {u : Value} (hX : OpX P φ o h u) : OpV P φ o h (Det u h) := by
  intro a w hev hw'
  exact .inl ⟨_, w, hX a w hev hw', Same.refl w, rfl, hw'.symm⟩

theorem Ok.swap {a : Act} {d e : Nat} {u v : Value} (hne : (d == e) = false) (ho : Ok N ((d, u) :: (e, v) :: φ) a) : Ok N ((e, v) :: (d, u) :: φ) a := by
  refine ⟨ho.defers, ho.size, fun t x ht => ho.slot t x ?_⟩
  simp only [Fr.get] at ht ⊢
  cases h1 : Nat.beq d t with
  | false => rw [h1] at ht; simpa using ht
  | true =>
    have hd := Nat.eq_of_beq_eq_true h1
    subst hd
    have h2 : Nat.beq e d = false := by
      have : e ≠ d := fun hh => by subst hh; simp at hne
      cases h3 : Nat.beq e d with
      | false => rfl
      | true => exact absurd (Nat.eq_of_beq_eq_true h3) this
    rw [h1, h2] at ht
    simpa using ht

/-- two that may come in either order -/
theorem TK.two {Q : Exit → Fr → Heap → Prop} {ops : List Oper} {S : Heap → Prop} (i j : Nat) {oi oj : Oper} {di dj : Nat} {ui uj : Value} {fuel : Nat} {listed : Array Bool} (hi : ops[i]? = some oi) (hj : ops[j]? = some oj) (hdi : oi.dst = some di) (hdj : oj.dst = some dj) (gi : oi.guard = none) (gj : oj.guard = none) (ni : di < N) (nj : dj < N) (hne : (di == dj) = false)
    (hr : (Region.ready .any ops.toArray listed == [i, j]) = true) (hri : (Region.ready .any ops.toArray (listed.setIfInBounds i true) == [j]) = true) (hrj : (Region.ready .any ops.toArray (listed.setIfInBounds j true) == [i]) = true) (hij : (i == j) = false)
    (x1 : OpX P φ oi h ui) (x2 : OpX P φ oj h uj) (x3 : OpX P ((dj, uj) :: φ) oi h ui) (x4 : OpX P ((di, ui) :: φ) oj h uj) (H : TK P N ops Q S fuel ((listed.setIfInBounds i true).setIfInBounds j true) ((dj, uj) :: (di, ui) :: φ) h) : TK P N ops Q S (fuel + 2) listed φ h := by
  intro w0 a w hs hw ho hS
  have hr' : Region.ready .any ops.toArray listed = [i, j] := by simpa using hr
  have A : TK P N ops Q S (fuel + 1) (listed.setIfInBounds i true) ((di, ui) :: φ) h :=
    TK.stepD j _ hj hdj gj nj hri x4.det (fun v h' ⟨e1, e2⟩ => by
      subst e1 e2
      exact ⟨by rw [hw] at *; exact hS, H⟩)
  have B : TK P N ops Q S (fuel + 1) (listed.setIfInBounds j true) ((dj, uj) :: φ) h :=
    TK.stepD i _ hi hdi gi ni hrj x3.det (fun v h' ⟨e1, e2⟩ => by
      subst e1 e2
      refine ⟨hS, ?_⟩
      rw [Array.setIfInBounds_comm _ _ (by simpa using Ne.symm (by simpa using hij : i ≠ j))]
      intro w1 b w' q1 q2 q3 q4
      exact H w1 b w' q1 q2 (q3.swap (by simpa using hne)) q4)
  refine wpAnyH_all hr' (by simp) (fun k hk => ?_)
  have hk : k = i ∨ k = j := by simpa using hk
  rcases hk with rfl | rfl
  · have hi' : ops.toArray[k]? = some oi := by simpa using hi
    unfold wpOp
    rw [hi']
    simp only
    rw [if_pos (by simp [Region.wanted, gi])]
    refine .inl (OpV.wp x1.det ho hw hs fun v w' hs' hk => ?_)
    rw [hdi]
    obtain ⟨e1, e2⟩ := hk
    subst e1
    exact ⟨by rw [← e2]; exact hS, A w0 _ w' hs' e2.symm (ho.put' ni) hS⟩
  · have hj' : ops.toArray[k]? = some oj := by simpa using hj
    unfold wpOp
    rw [hj']
    simp only
    rw [if_pos (by simp [Region.wanted, gj])]
    refine .inl (OpV.wp x2.det ho hw hs fun v w' hs' hk => ?_)
    rw [hdj]
    obtain ⟨e1, e2⟩ := hk
    subst e1
    exact ⟨by rw [← e2]; exact hS, B w0 _ w' hs' e2.symm (ho.put' nj) hS⟩

/-- a list of one's own, its end cut off: one's own still -/
theorem opS_cutO {α : Type} {K : Kd α} {v : Value} {l : List α} {t E : TypeId} {x y : Operand} {j : Int} {m : List α} {k : IntKind} (ho : o.op = .slice t x none (some y) none) (ht : P.underlying t = some (.slice E)) (hsz : (P.info? E).map (·.size) = some K.size) (hx : φ.ev x = some v) (hy : φ.ev y = some (.int k j))
    (H : (ownO K E v l).holds h) (hm : sub l 0 j = some m) : OpV P φ o h (Made h [ownO K E v l] (fun u => [ownO K E u m])) := by
  intro a w hev hw'
  subst hw'
  have H0 : Own K E 0 w.heap v l := H
  have hlt := H0.bounds
  obtain ⟨xs, ⟨hlen, hc⟩, hr⟩ := H0
  unfold sub at hm
  split at hm
  case isFalse => cases hm
  rename_i hb
  obtain ⟨_, h1, h2⟩ := hb
  cases hm
  obtain ⟨info, hinfo, hsize⟩ := Option.map_eq_some_iff.1 hsz
  have hml : ((l.drop (0 : Int).toNat).take (j.toNat - (0 : Int).toNat)).length = j.toNat := by simp; omega
  have core : ∀ (p : Option Addr) (c : Nat), v = .slice p l.length c → l.length ≤ c → (∀ h0 : (p.map (·.add (0 * K.size))) = p, (execOp a.eval o).run P w = .ok (.value (.slice p j.toNat c)) w) := by
    intro p c hv hlc h0
    subst hv
    have hbounds : ∀ w : World, (Instr.sliceBounds true l.length c none (some (a.eval y)) none).run P w = .ok (0, j.toNat, c) w := by
      intro w
      have hj : (j : Int) ≤ (c : Int) := by omega
      simp [Instr.sliceBounds, Instr.sliceBound, asIntOf, hev y _ hy, h1, hj]
    have hrun : (Instr.sliceAt t (.slice p l.length c) none (some (a.eval y)) none).run P w = .ok (.slice p j.toNat c) w := by
      simp [Instr.sliceAt, run_underlying ht, Instr.slice, hbounds, sizeOf, typeInfo, hinfo, hsize]
      intro _
      simpa using h0
    have hx' := hev x _ hx
    simp only [execOp, ho, hx', Option.map_none]
    simp [hrun]
  have hmod : Mod ([ownO K E v l].flatMap (·.blks)) w.heap w.heap := Mod.refl _ _
  rcases hc with ⟨rfl, hn⟩ | ⟨g, cap, cur, rfl, hb, hg, c1, c2, c3, c4⟩
  · have hj0 : j.toNat = 0 := by omega
    refine .inl ⟨_, w, core none 0 (by rw [hn]) (by omega) rfl, Same.refl w, hmod, Sep.one (x := none) ?_ (fun b hb => by cases hb)⟩
    have e : ((l.drop (0 : Int).toNat).take (j.toNat - (0 : Int).toNat)) = [] := List.eq_nil_of_length_eq_zero (by rw [hml, hj0])
    rw [e, hj0]
    exact ownNil w.heap
  · refine .inl ⟨_, w, core (some ⟨g, 0, none⟩) cap rfl c1 (by simp [Addr.add]), Same.refl w, hmod, Sep.one (x := some g) ?_ (fun b hb => ?_)⟩
    · have hle : j.toNat ≤ l.length := by omega
      have hmul : j.toNat * K.size ≤ l.length * K.size := Nat.mul_le_mul_right _ hle
      refine ⟨xs.take (j.toNat * K.size), ⟨?_, .inr ⟨g, cap, cur, by rw [hml], Nat.zero_le _, hg, by rw [hml]; omega, c2, c3, ?_⟩⟩, ?_⟩
      · rw [hml, List.length_take]; omega
      · rw [hml, ← c4, List.take_take]
        congr 1
        omega
      · have := hr.take j.toNat
        simpa using this
    · cases hb
      exact ⟨(hlt _ rfl).2, .inr (by simp [ownO, Value.ownBlock])⟩
end
end Go.H

/- Lists of one's own lists: a slice whose elements are slices of one's own. -/
set_option linter.unusedVariables false
namespace Go.H
open Go

/-- the inner lists -/
def Inn (E2 : TypeId) (h : Heap) (vs : List Value) (ls : List (List Int)) : Prop :=
  vs.length = ls.length ∧ ∀ (i : Nat) u l, vs[i]? = some u → ls[i]? = some l → Own (kI .i64) E2 0 h u l
/-- blocks that differ -/
def ApB (B : List (Option Nat)) : Prop := B.Pairwise (fun x y => ∀ b, x = some b → y ≠ some b)

theorem Own.same {α : Type} {K : Kd α} {E : TypeId} {h h' : Heap} {v : Value} {l : List α} (H : Own K E 0 h v l) (hs : h.size ≤ h'.size) (hb : ∀ b, v.ownBlock = some b → h'[b]? = h[b]?) : Own K E 0 h' v l :=
  H.chg (S := fun b => v.ownBlock ≠ some b) ⟨hs, fun k _ hk => hb k (Decidable.byContradiction hk : v.ownBlock = some k)⟩ (fun b h1 h2 => h2 h1)

/-- a slice 'v' whose elements are the slices 'vs', which read the lists 'ls'; all blocks its own -/
def ooO (E E2 : TypeId) (v : Value) (vs : List Value) (ls : List (List Int)) : Thing where
  blks := v.ownBlock :: vs.map Value.ownBlock
  holds h := Own kV E 0 h v vs ∧ Inn E2 h vs ls ∧ ApB (v.ownBlock :: vs.map Value.ownBlock)
  stable h h' hs hb H := by
    obtain ⟨h1, ⟨h2, h3⟩, h4⟩ := H
    refine ⟨h1.same hs (fun b e => hb b (by rw [← e]; exact List.mem_cons_self)), ⟨h2, fun i u l hu hl => (h3 i u l hu hl).same hs (fun b e => hb b ?_)⟩, h4⟩
    rw [← e]
    exact List.mem_cons_of_mem _ (List.mem_map_of_mem (List.mem_of_getElem? hu))

theorem ooO.len {E E2 : TypeId} {v : Value} {vs : List Value} {ls : List (List Int)} {h : Heap} (H : (ooO E E2 v vs ls).holds h) : vs.length = ls.length := H.2.1.1
theorem ooO.outer {E E2 : TypeId} {v : Value} {vs : List Value} {ls : List (List Int)} {h : Heap} (H : (ooO E E2 v vs ls).holds h) : SL kV h.size h v vs := Own.read H.1 (Nat.le_refl _)
theorem ooO.one {E E2 : TypeId} {v : Value} {vs : List Value} {ls : List (List Int)} {h : Heap} (H : (ooO E E2 v vs ls).holds h) : v.oneCell' = true := (ooO.outer H).one

/-- a slice of slices that is read only -/
def SLL (e : Nat) (h : Heap) (v : Value) (vs : List Value) (ls : List (List Int)) : Prop :=
  SL kV e h v vs ∧ vs.length = ls.length ∧ ∀ (i : Nat) u l, vs[i]? = some u → ls[i]? = some l → SL (kI .i64) e h u l
theorem ooO.read {E E2 : TypeId} {v : Value} {vs : List Value} {ls : List (List Int)} {h : Heap} (H : (ooO E E2 v vs ls).holds h) : SLL h.size h v vs ls :=
  ⟨ooO.outer H, H.2.1.1, fun i u l hu hl => Own.read (H.2.1.2 i u l hu hl) (Nat.le_refl _)⟩
theorem SLL.nil (e : Nat) (h : Heap) : SLL e h (.slice none 0 0) [] [] := ⟨slNil e h, rfl, by intro i u l hu; simp at hu⟩
theorem SLL.ext {e : Nat} {h h' : Heap} {v : Value} {vs : List Value} {ls : List (List Int)} (H : SLL e h v vs ls) (x : Ext h h') : SLL e h' v vs ls :=
  ⟨H.1.ext x, H.2.1, fun i u l hu hl => (H.2.2 i u l hu hl).ext x⟩
theorem SLL.up {e e' : Nat} {h : Heap} {v : Value} {vs : List Value} {ls : List (List Int)} (H : SLL e h v vs ls) (he : e ≤ e') : SLL e' h v vs ls :=
  ⟨H.1.up he, H.2.1, fun i u l hu hl => (H.2.2 i u l hu hl).up he⟩
theorem SLL.mod {B : List (Option Nat)} {e : Nat} {h0 h : Heap} {v : Value} {vs : List Value} {ls : List (List Int)} (H : SLL e h0 v vs ls) (X : Mod B h0 h) (he : e ≤ h0.size) (hB : ∀ b, some b ∈ B → e ≤ b) : SLL e h v vs ls :=
  ⟨H.1.mod X he hB, H.2.1, fun i u l hu hl => (H.2.2 i u l hu hl).mod X he hB⟩

theorem ownNilB {E : TypeId} {h : Heap} {u : Value} {l : List Int} (H : Own (kI .i64) E 0 h u l) : u.oneCell' = true := (Own.read H (Nat.le_refl _)).one

section
variable {P : Program} {φ : Fr} {h : Heap} {o : Oper} {E E2 : TypeId}

/-- none yet -/
theorem ooO.empty {v : Value} {h : Heap} (H : Own kV E 0 h v []) : (ooO E E2 v [] []).holds h :=
  ⟨H, ⟨rfl, by intro i u l hu; simp at hu⟩, by simp [ApB]⟩
theorem opS_litOO0 {t : TypeId} (ho : o.op = .buildSlice t 0 #[]) (ht : P.underlying t = some (.slice E)) (hinf : (P.info? E).isSome = true) : OpV P φ o h (Made h [] (fun u => [ooO E E2 u [] []])) :=
  (opS_lit0 (K := kV) ho ht hinf).mono fun u h' ⟨M, S⟩ => ⟨M, Sep.one' (ooO.empty (S.holds _ (List.mem_singleton.2 rfl))) (fun b hb => by
    have : some b ∈ (ownO kV E u ([] : List Value)).blks := hb
    exact S.blk _ (List.mem_singleton.2 rfl) b this)⟩

/-- a literal of one list of one's own -/
theorem opS_litOO1 {t : TypeId} {x : Operand} {u : Value} {l : List Int} {n b : Nat} {zz : Value} {B : List (Option Nat)} {m : Nat} {L : List Thing} (ho : o.op = .buildSlice t 1 #[(0, x)]) (ht : P.underlying t = some (.slice E)) (hinf : elemInfo P E = some (zz, n, b)) (hn : n = 1) (hzz : zz.cells.size = 1) (hx : φ.ev x = some u)
    (H : (ownO (kI .i64) E2 u l).holds h) : OpV P φ o h (Made h [ownO (kI .i64) E2 u l] (fun v => [ooO E E2 v [u] [l]])) :=
  (opS_lit1 (K := kV) (z := u) ho ht hinf hn hzz hx rfl ⟨rfl, ownO.one H⟩).mono fun v h' ⟨M, S⟩ => by
    have hv := S.holds _ (List.mem_singleton.2 rfl)
    have hvb := S.blk _ (List.mem_singleton.2 rfl)
    have hu0 : Own (kI .i64) E2 0 h u l := H
    have hub := hu0.bounds
    have hu : Own (kI .i64) E2 0 h' u l := hu0.same M.size (fun b e => M.same b (hub b e).2 (by simp))
    have new : ∀ b, v.ownBlock = some b → h.size ≤ b ∧ b < h'.size := fun b e => by
      have := hvb b (List.mem_singleton.2 e.symm)
      exact ⟨this.2.elim id (fun h => by simp at h), this.1⟩
    refine ⟨⟨M.size, fun b hb _ => M.same b hb (by simp)⟩, Sep.one' ⟨hv, ⟨rfl, ?_⟩, ?_⟩ ?_⟩
    · intro i u' l' e1 e2
      cases i with
      | zero =>
        simp at e1 e2
        subst e1 e2
        exact hu
      | succ i => simp at e1
    · refine List.pairwise_cons.2 ⟨?_, by simp⟩
      intro y hy b e1 e2
      have hy' : y = u.ownBlock := by simpa using hy
      subst hy'
      have := (new b e1).1
      have := (hub b e2).2
      omega
    · intro b hb
      rcases List.mem_cons.1 hb with e | hb
      · have := new b e.symm
        exact ⟨this.2, .inl this.1⟩
      · have e : some b = u.ownBlock := by simpa using hb
        have := (hub b e.symm).2
        exact ⟨Nat.lt_of_lt_of_le this M.size, .inr (by rw [e]; simp [ownO])⟩

theorem idx_other {α β : Type} {l : List α} {m : List β} {n : Int} {y : α} (h : idx l n = some y) (hl : m.length = l.length) : ∃ z, idx m n = some z := by
  obtain ⟨h1, h2, h3⟩ := idx_some h
  have hb : n.toNat < m.length := by omega
  refine ⟨m[n.toNat], ?_⟩
  unfold idx
  rw [if_pos h1, List.getElem?_eq_getElem hb]

theorem opv_lenOO {x : Operand} {t : TypeId} {v : Value} {vs : List Value} {ls : List (List Int)} {e : Nat} (ho : o.op = .call { callee := .builtin .len, args := #[x], argTypes := #[t] }) (ht : P.underlying t = some (.slice E)) (hx : φ.ev x = some v) (H : SLL e h v vs ls) : OpV P φ o h (Det (.int .i64 (ls.length : Int)) h) := by
  rw [← H.2.1]
  exact opv_len ho ht hx H.1

theorem opv_indexOO {t : TypeId} {x i : Operand} {k : IntKind} {n : Int} {v : Value} {vs : List Value} {ls : List (List Int)} {l : List Int} {e : Nat} (ho : o.op = .indexAddr t x i) (ht : P.underlying t = some (.slice E)) (hs : (P.info? E).map (·.size) = some kV.size) (hx : φ.ev x = some v) (hi : φ.ev i = some (.int k n)) (H : SLL e h v vs ls) (hn : idx ls n = some l) :
    OpV P φ o h (fun u h' => PtI 1 u v n.toNat ∧ h = h') := by
  obtain ⟨z, hz⟩ := idx_other hn H.2.1
  exact opv_index (K := kV) ho ht hs hx hi H.1 hz

/-- an inner list, loaded: what it reads, and which it is -/
theorem opx_loadOO {t : TypeId} {x : Operand} {u : Value} {n : Int} {v : Value} {vs : List Value} {ls : List (List Int)} {l : List Int} {e : Nat} (ho : o.op = .load t x) (ht : oneCellT P t = true) (hx : φ.ev x = some u) (hp : PtI 1 u v n.toNat) (H : SLL e h v vs ls) (hy : idx ls n = some l) :
    ∃ r, (SL (kI .i64) e h r l ∧ vs[n.toNat]? = some r) ∧ OpX P φ o h r := by
  obtain ⟨z, hz⟩ := idx_other hy H.2.1
  have hz' := (idx_some hz).2.2
  obtain ⟨r, hr, hX⟩ := opx_loadE (K := kV) ho ht rfl hx hp H.1 hz'
  obtain ⟨e1, _⟩ := hr
  have e2 : r = z := by simpa using e1
  subst e2
  exact ⟨r, ⟨H.2.2 _ _ _ hz' (idx_some hy).2.2, hz'⟩, hX⟩
theorem opv_loadOO {t : TypeId} {x : Operand} {u : Value} {n : Int} {v : Value} {vs : List Value} {ls : List (List Int)} {l : List Int} {e : Nat} (ho : o.op = .load t x) (ht : oneCellT P t = true) (hx : φ.ev x = some u) (hp : PtI 1 u v n.toNat) (H : SLL e h v vs ls) (hy : idx ls n = some l) :
    OpV P φ o h (fun r h' => (SL (kI .i64) e h r l ∧ vs[n.toNat]? = some r) ∧ h = h') := by
  obtain ⟨r, hr, hX⟩ := opx_loadOO ho ht hx hp H hy
  exact hX.det.mono fun u h' ⟨e1, e2⟩ => ⟨by rw [← e1]; exact hr, e2⟩

theorem apb_cons {v : Value} {vs : List Value} (h : ApB (v.ownBlock :: vs.map Value.ownBlock)) {u : Value} (hu : u ∈ vs) {b : Nat} (e1 : v.ownBlock = some b) : u.ownBlock ≠ some b :=
  (List.pairwise_cons.1 h).1 _ (List.mem_map_of_mem hu) b e1

/-- the inner lists' blocks lie within the heap -/
theorem Inn.lt {h : Heap} {vs : List Value} {ls : List (List Int)} (H : Inn E2 h vs ls) {u : Value} (hu : u ∈ vs) {b : Nat} (e : u.ownBlock = some b) : b < h.size := by
  obtain ⟨i, hi, rfl⟩ := List.getElem_of_mem hu
  have hl : i < ls.length := by rw [← H.1]; exact hi
  exact ((H.2 i _ _ (List.getElem?_eq_getElem hi) (List.getElem?_eq_getElem hl)).bounds b e).2
theorem Inn.same {h h' : Heap} {vs : List Value} {ls : List (List Int)} (H : Inn E2 h vs ls) (hs : h.size ≤ h'.size) (hb : ∀ u ∈ vs, ∀ b, u.ownBlock = some b → h'[b]? = h[b]?) : Inn E2 h' vs ls :=
  ⟨H.1, fun i u l hu hl => (H.2 i u l hu hl).same hs (hb u (List.mem_of_getElem? hu))⟩
theorem Inn.append {h : Heap} {vs ws : List Value} {ls ms : List (List Int)} (H : Inn E2 h vs ls) (K : Inn E2 h ws ms) : Inn E2 h (vs ++ ws) (ls ++ ms) := by
  refine ⟨by rw [List.length_append, List.length_append, H.1, K.1], fun i u l hu hl => ?_⟩
  by_cases hi : i < vs.length
  · rw [List.getElem?_append_left hi] at hu
    rw [List.getElem?_append_left (by rw [← H.1]; exact hi)] at hl
    exact H.2 i u l hu hl
  · rw [List.getElem?_append_right (by omega)] at hu
    rw [List.getElem?_append_right (by rw [← H.1]; omega), ← H.1] at hl
    exact K.2 _ u l hu hl

/-- lists of one's own lists, joined: the second one's elements go over -/
theorem opS_appendOO {t : TypeId} {x y : Operand} {v w zz : Value} {vs ws : List Value} {ls ms : List (List Int)} {n b m : Nat} {B : List (Option Nat)} {L : List Thing} (ho : o.op = .call { callee := .builtin .append, args := #[x, y], argTypes := #[t, t] }) (ht : P.underlying t = some (.slice E)) (hinf : elemInfo P E = some (zz, n, b)) (hn : n = 1) (hzz : zz.cells.size = n)
    (hx : φ.ev x = some v) (hy : φ.ev y = some w) (S : Sep B m h (ooO E E2 v vs ls :: ooO E E2 w ws ms :: L)) (hb : 0 < b) (hb2 : b ≤ 64) (hfit : ls.length + ms.length ≤ 1000000000) :
    OpV P φ o h (Made h [ooO E E2 v vs ls, ooO E E2 w ws ms] (fun u => [ooO E E2 u (vs ++ ws) (ls ++ ms)])) := by
  have H1 : (ooO E E2 v vs ls).holds h := S.holds _ List.mem_cons_self
  have H2 : (ooO E E2 w ws ms).holds h := S.holds _ (List.mem_cons_of_mem _ List.mem_cons_self)
  have hap : ∀ b, some b ∈ (ooO E E2 v vs ls).blks → some b ∉ (ooO E E2 w ws ms).blks := (List.pairwise_cons.1 S.apart).1 _ List.mem_cons_self
  refine (opS_append (K := kV) (l := vs) (m := ws) ho ht hinf hn hzz hx hy H1.1 (ooO.outer H2) hb hb2 (by rw [ooO.len H1, ooO.len H2]; exact hfit)).mono fun u h' ⟨M, T⟩ => ?_
  have M' : ∀ b, b < h.size → v.ownBlock ≠ some b → h'[b]? = h[b]? := fun b hb hne => M.same b hb (by
    intro hm
    have : some b = v.ownBlock := by simpa [ownO] using hm
    exact hne this.symm)
  have hT := T.blk _ (List.mem_singleton.2 rfl)
  have i1 : Inn E2 h' vs ls := H1.2.1.same M.size fun x hx b e => M' b (H1.2.1.lt hx e) fun e2 => apb_cons H1.2.2 hx e2 e
  have vIn : ∀ b, v.ownBlock = some b → some b ∈ (ooO E E2 v vs ls).blks := fun b e => by rw [← e]; exact List.mem_cons_self
  have wIn : ∀ x ∈ ws, ∀ b, x.ownBlock = some b → some b ∈ (ooO E E2 w ws ms).blks := fun x hx b e => by rw [← e]; exact List.mem_cons_of_mem _ (List.mem_map_of_mem hx)
  have vsIn : ∀ x ∈ vs, ∀ b, x.ownBlock = some b → some b ∈ (ooO E E2 v vs ls).blks := fun x hx b e => by rw [← e]; exact List.mem_cons_of_mem _ (List.mem_map_of_mem hx)
  have i2 : Inn E2 h' ws ms := H2.2.1.same M.size fun x hx b e => M' b (H2.2.1.lt hx e) fun e2 => hap b (vIn b e2) (wIn x hx b e)
  have uB : ∀ b, u.ownBlock = some b → b < h'.size ∧ (h.size ≤ b ∨ v.ownBlock = some b) := fun b e => by
    obtain ⟨p, q⟩ := hT b (List.mem_singleton.2 e.symm)
    refine ⟨p, q.imp id fun hm => ?_⟩
    have : some b = v.ownBlock := by simpa [ownO] using hm
    exact this.symm
  refine ⟨⟨M.size, fun b hb hne => M' b hb fun e => hne (by simp [ooO, e])⟩, Sep.one' ⟨T.holds _ (List.mem_singleton.2 rfl), i1.append i2, ?_⟩ ?_⟩
  · refine List.pairwise_cons.2 ⟨?_, ?_⟩
    · intro y hy b e1 e2
      obtain ⟨x, hx, rfl⟩ := List.mem_map.1 hy
      rcases (uB b e1).2 with h1 | h1
      · rcases List.mem_append.1 hx with hx | hx
        · have := H1.2.1.lt hx e2; omega
        · have := H2.2.1.lt hx e2; omega
      · rcases List.mem_append.1 hx with hx | hx
        · exact apb_cons H1.2.2 hx h1 e2
        · exact hap b (vIn b h1) (wIn x hx b e2)
    · rw [List.map_append]
      refine List.pairwise_append.2 ⟨(List.pairwise_cons.1 H1.2.2).2, (List.pairwise_cons.1 H2.2.2).2, fun p hp q hq b e1 e2 => ?_⟩
      obtain ⟨x, hx, rfl⟩ := List.mem_map.1 hp
      obtain ⟨y, hy, rfl⟩ := List.mem_map.1 hq
      exact hap b (vsIn x hx b e1) (wIn y hy b e2)
  · intro b hb
    rcases List.mem_cons.1 hb with e | hb
    · obtain ⟨p, q⟩ := uB b e.symm
      exact ⟨p, q.imp id fun e => by simp [ooO, e]⟩
    · obtain ⟨x, hx, e⟩ := List.mem_map.1 hb
      rcases List.mem_append.1 hx with hx | hx
      · exact ⟨Nat.lt_of_lt_of_le (H1.2.1.lt hx e) M.size, .inr (List.mem_flatMap.2 ⟨_, List.mem_cons_self, vsIn x hx b e⟩)⟩
      · exact ⟨Nat.lt_of_lt_of_le (H2.2.1.lt hx e) M.size, .inr (List.mem_flatMap.2 ⟨_, List.mem_cons_of_mem _ List.mem_cons_self, wIn x hx b e⟩)⟩

/-- one of the inner lists, told as one's own -/
theorem Sep.inner {v : Value} {vs : List Value} {ls : List (List Int)} {i : Nat} {u : Value} {l : List Int} {B : List (Option Nat)} {m : Nat} {L : List Thing} (S : Sep B m h (ooO E E2 v vs ls :: L)) (hu : vs[i]? = some u) (hl : ls[i]? = some l) (k : Nat) : Sep [u.ownBlock] k h [ownO (kI .i64) E2 u l] := by
  have H := S.holds _ List.mem_cons_self
  have hi := H.2.1.2 i u l hu hl
  exact Sep.one hi fun b e => ⟨(hi.bounds b e).2, .inr (by rw [e]; exact List.mem_singleton.2 rfl)⟩
/-- it is turned: the whole is as it was, but for this one -/
theorem Sep.innerTurn {h' : Heap} {v : Value} {vs : List Value} {ls : List (List Int)} {i : Nat} {u : Value} {l l' : List Int} {B : List (Option Nat)} {m : Nat} {L : List Thing} (S : Sep B m h (ooO E E2 v vs ls :: L)) (hu : vs[i]? = some u) (hl : ls[i]? = some l)
    (M : Mod [u.ownBlock] h h') (T : Sep [u.ownBlock] h.size h' [ownO (kI .i64) E2 u l']) : Mod ([ooO E E2 v vs ls].flatMap (·.blks)) h h' ∧ Sep ([ooO E E2 v vs ls].flatMap (·.blks)) h.size h' [ooO E E2 v vs (ls.set i l')] := by
  have H : (ooO E E2 v vs ls).holds h := S.holds _ List.mem_cons_self
  have hmem := List.mem_of_getElem? hu
  have uIn : ∀ b, u.ownBlock = some b → some b ∈ (ooO E E2 v vs ls).blks := fun b e => by rw [← e]; exact List.mem_cons_of_mem _ (List.mem_map_of_mem hmem)
  have M' : ∀ b, b < h.size → u.ownBlock ≠ some b → h'[b]? = h[b]? := fun b hb hne => M.same b hb fun hm => hne (List.mem_singleton.1 hm).symm
  have hlen := H.2.1.1
  have hil : i < ls.length := (List.getElem?_eq_some_iff.1 hl).1
  have hiv : i < vs.length := by omega
  have hp := List.pairwise_iff_getElem.1 (List.pairwise_cons.1 H.2.2).2
  have inn : Inn E2 h' vs (ls.set i l') := by
    refine ⟨by rw [List.length_set]; exact hlen, fun j x y hx hy => ?_⟩
    by_cases hj : j = i
    · subst hj
      rw [hu] at hx
      rw [List.getElem?_set_self hil] at hy
      cases hx; cases hy
      exact T.holds _ (List.mem_singleton.2 rfl)
    · rw [List.getElem?_set_ne (Ne.symm hj)] at hy
      have hx' := List.getElem?_eq_some_iff.1 hx
      have hu' := List.getElem?_eq_some_iff.1 hu
      obtain ⟨hjl, ex⟩ := hx'
      obtain ⟨_, eu⟩ := hu'
      refine (H.2.1.2 j x y hx hy).same M.size fun b e => M' b (H.2.1.lt (List.mem_of_getElem? hx) e) fun e2 => ?_
      rcases Nat.lt_or_gt_of_ne hj with hlt | hlt
      · have := hp j i (by simpa using hjl) (by simpa using hiv) hlt b
        simp only [List.getElem_map, ex, eu] at this
        exact this e e2
      · have := hp i j (by simpa using hiv) (by simpa using hjl) hlt b
        simp only [List.getElem_map, ex, eu] at this
        exact this e2 e
  refine ⟨⟨M.size, fun b hb hne => M' b hb fun e => hne (List.mem_flatMap.2 ⟨_, List.mem_singleton.2 rfl, uIn b e⟩)⟩, Sep.one' ⟨?_, inn, H.2.2⟩ fun b hb => ?_⟩
  · exact H.1.same M.size fun b e => M' b (H.1.bounds b e).2 fun e2 => apb_cons H.2.2 hmem e e2
  · have := S.blk _ List.mem_cons_self b hb
    exact ⟨Nat.lt_of_lt_of_le this.1 M.size, .inr (List.mem_flatMap.2 ⟨_, List.mem_singleton.2 rfl, hb⟩)⟩
end

/-- a slice of slices of one's own: its value, and those of its elements -/
structure OO where
  v : Value
  vs : List Value
def ooV (w : OO) : Value := w.v
abbrev ooW (E E2 : TypeId) (w : OO) (ls : List (List Int)) : Thing := ooO E E2 w.v w.vs ls
def ooNil : OO := ⟨.slice none 0 0, []⟩

theorem Sep.innerB {E E2 : TypeId} {h : Heap} {v : Value} {vs : List Value} {ls : List (List Int)} {i : Nat} {u : Value} {l : List Int} {B : List (Option Nat)} {m : Nat} {L : List Thing} (S : Sep B m h (ooO E E2 v vs ls :: L)) (hu : vs[i]? = some u) (hl : ls[i]? = some l) : Sep B m h [ownO (kI .i64) E2 u l] := by
  have H := S.holds _ List.mem_cons_self
  have hi := H.2.1.2 i u l hu hl
  refine Sep.one hi fun b e => ?_
  exact S.blk _ List.mem_cons_self b (by rw [← e]; exact List.mem_cons_of_mem _ (List.mem_map_of_mem (List.mem_of_getElem? hu)))
theorem Sep.addNilOO {E E2 : TypeId} {B : List (Option Nat)} {n : Nat} {h : Heap} {L : List Thing} (S : Sep B n h L) : Sep B n h (ooW E E2 ooNil [] :: L) := by
  refine ⟨?_, ?_, List.pairwise_cons.2 ⟨?_, S.apart⟩⟩
  · intro o ho
    rcases List.mem_cons.1 ho with rfl | ho
    · exact ooO.empty (ownNil h)
    · exact S.holds o ho
  · intro o ho b hb
    rcases List.mem_cons.1 ho with rfl | ho
    · have : some b ∈ [(none : Option Nat)] := hb
      simp at this
    · exact S.blk o ho b hb
  · intro o _ b hb
    have : some b ∈ [(none : Option Nat)] := hb
    simp at this

theorem opx_indexOO {P : Program} {φ : Fr} {h : Heap} {o : Oper} {E : TypeId} {t : TypeId} {x i : Operand} {k : IntKind} {n : Int} {v : Value} {vs : List Value} {ls : List (List Int)} {l : List Int} {e : Nat} (ho : o.op = .indexAddr t x i) (ht : P.underlying t = some (.slice E)) (hs : (P.info? E).map (·.size) = some kV.size) (hx : φ.ev x = some v) (hi : φ.ev i = some (.int k n)) (H : SLL e h v vs ls) (hn : idx ls n = some l) :
    ∃ u, PtI 1 u v n.toNat ∧ OpX P φ o h u := by
  obtain ⟨z, hz⟩ := idx_other hn H.2.1
  exact opx_indexP (K := kV) ho ht hs hx hi H.1 hz
end Go.H

/- Regions that draw their order and turn nothing: parts of elements. -/
set_option linter.unusedVariables false
namespace Go.H
open Go

section
variable {P : Program} {φ : Fr} {h : Heap} {o : Oper} {α : Type} {K : Kd α} {e : Nat} {v : Value} {l : List α}

theorem opx_loadPart {t : TypeId} {x : Operand} {u r : Value} {i off : Nat} {y : α} (ho : o.op = .load t x) (ht : oneCellT P t = true) (hx : φ.ev x = some u) (hp : PtF K.size off u v i) (H : SL K e h v l) (hy : l[i]? = some y) (hr : ∀ us, K.rel y us → us[off]? = some r) : OpX P φ o h r := by
  obtain ⟨q, c, xs, rfl, hrr, hc⟩ := H
  obtain ⟨p, n, c', hv, rfl⟩ := hp
  simp only [Value.slice.injEq] at hv
  obtain ⟨rfl, rfl, rfl⟩ := hv
  rcases hc with rfl | ⟨p', hp, hsp, hb, hcell⟩
  · simp at hy
  cases hp
  obtain ⟨us, hrel, hus⟩ := hrr.2.get hy
  have hce := hcell _ _ (hus off r (hr us hrel))
  intro a w hev hw'
  have := run_loadVar_one (P := P) ht (w := w) (a := p.add (i * K.size + off)) (v := r) (by rw [cell_hw hw']; exact hce)
  simp [execOp, ho, hev x _ hx, Instr.loadAt, Instr.sureAddr, this]

theorem opx_fieldE {s : TypeId} {x : Operand} {f n : Nat} {u : Value} {i : Nat} (ho : o.op = .fieldAddr s x f) (hf : fieldOff P s f = some n) (hx : φ.ev x = some u) (hp : PtI K.size u v i) (H : SL K e h v l) (hl : i < l.length) : ∃ u', PtF K.size n u' v i ∧ OpX P φ o h u' := by
  obtain ⟨p, m, c, hv, rfl⟩ := hp
  obtain ⟨hsp, _⟩ := H.spot hv (by intro h0; subst h0; simp at hl)
  refine ⟨.pointer (some (p.add (i * K.size + n))), ⟨p, m, c, hv, rfl⟩, ?_⟩
  intro a w hev hw'
  unfold fieldOff at hf
  split at hf
  · rename_i fs hu
    split at hf
    · rename_i fd hfd
      split at hf
      · rename_i ti hi
        split at hf
        · cases hf
        · rename_i hz
          cases hf
          rw [← add_add _ _ _ hsp]
          simp [execOp, ho, hev x _ hx, Instr.fieldAt, Instr.sureAddr, run_underlying hu, hfd, fieldPlace, sizeOf, typeInfo, hi, hz]
      · cases hf
    · cases hf
  · cases hf

/-- a pointer to an element is not nil -/
theorem opv_nilCheckP {x : Operand} {u : Value} {sz i : Nat} (ho : o.op = .nilCheck x) (hx : φ.ev x = some u) (hp : PtI sz u v i) : OpV P φ o h (Det u h) := by
  obtain ⟨p, n, c, _, rfl⟩ := hp
  exact opv_nilCheck ho hx
theorem opx_nilCheckP {x : Operand} {u : Value} {sz i : Nat} (ho : o.op = .nilCheck x) (hx : φ.ev x = some u) (hp : PtI sz u v i) : OpX P φ o h u := by
  obtain ⟨p, n, c, _, rfl⟩ := hp
  exact opx_nilCheck ho hx
end
end Go.H

/- Strings. -/
set_option linter.unusedVariables false
namespace Go.H
open Go

/-- an inner list, read later -/
theorem ooO.innerRead {E E2 : TypeId} {v : Value} {vs : List Value} {ls : List (List Int)} {h : Heap} {n : Int} {u : Value} {l : List Int} (H : (ooO E E2 v vs ls).holds h) (hu : vs[n.toNat]? = some u) (hy : idx ls n = some l) : SL (kI .i64) h.size h u l :=
  Own.read (H.2.1.2 _ _ _ hu (idx_some hy).2.2) (Nat.le_refl _)

/-- elements that are strings -/
def kS : Kd ByteArray where
  size := 1
  rel s us := us = [.string s]
  len := by rintro _ _ rfl; rfl
  one := by rintro _ _ rfl u hu; simp at hu; subst hu; rfl
  pos := by decide

/-- a byte of a string -/
def sidx (s : ByteArray) (n : Int) : Option Int := if 0 ≤ n then (s.data.toList[n.toNat]?).map fun b => (b.toNat : Int) else none
/-- the string of such bytes -/
def mkS (l : List Int) : ByteArray := ⟨(l.map fun n => UInt8.ofNat n.toNat).toArray⟩

theorem bytes_get (s : ByteArray) (i : Nat) : s[i]? = s.data.toList[i]? := by
  by_cases h : i < s.size
  · rw [getElem?_pos s i h]
    have h2 : i < s.data.toList.length := by simpa using h
    rw [List.getElem?_eq_getElem h2]
    rfl
  · rw [getElem?_neg s i h, List.getElem?_eq_none (by simpa using h)]

theorem foldl_mkS : ∀ (l : List Int) (r : ByteArray), l.foldl (fun r n => r.push (UInt8.ofNat n.toNat)) r = ⟨r.data ++ (l.map fun n => UInt8.ofNat n.toNat).toArray⟩
  | [], r => by simp
  | b :: l, r => by
    simp only [List.foldl_cons]
    rw [foldl_mkS l]
    simp [ByteArray.push]

section
variable {P : Program} {φ : Fr} {h : Heap} {o : Oper} {α : Type} {K : Kd α} {e : Nat} {v : Value} {l : List α}

theorem opv_strAdd {t t' : TypeId} {x y : Operand} {m n : ByteArray} (ho : o.op = .binOp .add t x y t') (hx : φ.ev x = some (.string m)) (hy : φ.ev y = some (.string n)) (hs : m.size + n.size ≤ 1000000000) : OpV P φ o h (Det (.string (m ++ n)) h) := by
  intro a w hev hw
  refine .inl ⟨_, w, ?_, Same.refl w, rfl, hw.symm⟩
  have h1 : ¬ (((m.size + n.size : Nat) : Int) > IntKind.i64.max) := by
    have : IntKind.i64.max = 9223372036854775807 := by decide
    rw [this]; omega
  have h2 : (Op.stringOp .add m n).run P w = .ok (.string (m ++ n)) w := by
    unfold Op.stringOp
    simp only
    rw [if_neg h1]
    rfl
  simp [execOp, ho, hev x _ hx, hev y _ hy, eqGuard, binOp, h2]

theorem opv_indexS {t : TypeId} {x i : Operand} {k : IntKind} {s : ByteArray} {n y : Int} (ho : o.op = .index t x i) (ht : P.underlying t = some .string) (hx : φ.ev x = some (.string s)) (hi : φ.ev i = some (.int k n)) (hn : sidx s n = some y) : OpV P φ o h (Det (.int .u8 y) h) := by
  intro a w hev hw
  refine .inl ⟨_, w, ?_, Same.refl w, rfl, hw.symm⟩
  unfold sidx at hn
  by_cases h0 : 0 ≤ n
  · rw [if_pos h0] at hn
    obtain ⟨b, hb, rfl⟩ := Option.map_eq_some_iff.1 hn
    have hb' : s[n.toNat]? = some b := by rw [bytes_get]; exact hb
    simp [execOp, ho, hev x _ hx, hev i _ hi, Instr.index, asIntOf, run_underlying ht, h0, hb']
  · rw [if_neg h0] at hn; cases hn

theorem opv_loadS {l : List ByteArray} {t : TypeId} {x : Operand} {u : Value} {n : Int} {y : ByteArray} (ho : o.op = .load t x) (ht : oneCellT P t = true) (hx : φ.ev x = some u) (hp : PtI 1 u v n.toNat) (H : SL kS e h v l) (hy : idx l n = some y) : OpV P φ o h (Det (.string y) h) :=
  (opv_loadE (K := kS) ho ht rfl hx hp H (idx_some hy).2.2).mono (by rintro r _ ⟨hw, rfl⟩; change [r] = [.string y] at hw; simp at hw; subst hw; exact ⟨rfl, rfl⟩)

/-- the cells of a row of integers -/
theorem SL.ints {k : IntKind} {l : List Int} (H : SL (kI k) e h v l) : l = [] ∧ (∃ a c, v = .slice a 0 c) ∨ ∃ p c, v = .slice (some p) l.length c ∧ ∀ j (hj : j < l.length), (hw h).cell? (p.add j) = some (.int k l[j]) := by
  obtain ⟨a, c, xs, rfl, hr, hc⟩ := H
  rcases hc with rfl | ⟨p, rfl, hsp, hb, hcell⟩
  · exact .inl ⟨rfl, a, c, rfl⟩
  · refine .inr ⟨p, c, rfl, fun j hj => ?_⟩
    obtain ⟨us, hrel, hus⟩ := hr.2.get (List.getElem?_eq_getElem hj)
    change us = [.int k l[j]] at hrel
    subst hrel
    have := hus 0 _ rfl
    refine hcell j _ ?_
    simpa [kI] using this

theorem opv_b2s {t t' E : TypeId} {x : Operand} {l : List Int} (ho : o.op = .convert t t' x) (ht : P.underlying t = some (.slice E)) (hE : P.underlying E = some (.int .u8)) (hd : P.underlying t' = some .string) (hx : φ.ev x = some v) (H : SL (kI .u8) e h v l) : OpV P φ o h (Det (.string (mkS l)) h) := by
  intro a w hev hw'
  subst hw'
  refine .inl ⟨_, w, ?_, Same.refl w, rfl, rfl⟩
  rcases H.ints with ⟨rfl, p, c, rfl⟩ | ⟨p, c, rfl, hc⟩
  · have h1 : (convert t t' (.slice p 0 c)).run P w = .ok (.string (mkS [])) w := by
      rw [run_convert_bytes_string w t t' E p 0 c ht hE hd]
      cases p with
      | none => rfl
      | some p => exact run_bytesToString w p 0 c [] rfl
    simp [execOp, ho, hev x _ hx, h1]
  · have h1 : (convert t t' (.slice (some p) l.length c)).run P w = .ok (.string (mkS l)) w := by
      rw [run_convert_bytes_string w t t' E (some p) l.length c ht hE hd]
      have hl := run_loadCells_list (P := P) w p (l.map (Value.int .u8)) (fun j v hj => by
        have hj' : j < l.length := by
          have := (List.getElem?_eq_some_iff.1 hj).1
          simpa using this
        rw [cell_hw (h := w.heap) rfl, hc j hj']
        simp [List.getElem?_eq_getElem hj'] at hj
        rw [← hj])
      simp only [List.length_map] at hl
      rw [run_bytesToString w p l.length c _ hl, foldl_mkS]
      have he0 : ByteArray.empty.data = #[] := rfl
      rw [he0]
      simp [mkS]
    simp [execOp, ho, hev x _ hx, h1]
end
end Go.H
