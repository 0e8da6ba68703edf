/- Things of the call's own, kept apart. -/
import Derived.Test.YtohfgnjmgipehaaBase11
set_option linter.unusedVariables false
namespace Go.H
open Go

/-- what is known of one block (or of nil) -/
structure Thing where
  blk : Option Nat
  holds : Heap → Prop
  stable : ∀ (h h' : Heap), h.size ≤ h'.size → (∀ b, blk = some b → h'[b]? = h[b]?) → holds h → holds h'

def ownO {α : Type} (K : Kd α) (E : TypeId) (v : Value) (l : List α) : Thing where
  blk := v.ownBlock
  holds h := Own K E 0 h v l
  stable h h' hs hb H := H.chg (S := fun b => v.ownBlock ≠ some b) ⟨hs, fun k _ hk => hb k (Decidable.byContradiction hk)⟩ (fun b h1 h2 => h2 h1)

def boxO (b : Nat) (cs : List Value) : Thing where
  blk := some b
  holds h := Bx h b cs
  stable h h' hs hb H := by
    obtain ⟨T, hT⟩ := H
    exact ⟨T, by rw [hb b rfl]; exact hT⟩

/-- which blocks may have turned -/
structure Mod (B : List (Option Nat)) (h h' : Heap) : Prop where
  size : h.size ≤ h'.size
  same : ∀ b, b < h.size → some b ∉ B → h'[b]? = h[b]?

structure Sep (B : List (Option Nat)) (n : Nat) (h : Heap) (L : List Thing) : Prop where
  holds : ∀ o ∈ L, o.holds h
  blk : ∀ o ∈ L, ∀ b, o.blk = some b → b < h.size ∧ (n ≤ b ∨ some b ∈ B)
  apart : L.Pairwise (fun o o' => ∀ b, o.blk = some b → o'.blk ≠ some b)

theorem Mod.refl (B : List (Option Nat)) (h : Heap) : Mod B h h := ⟨Nat.le_refl _, fun _ _ _ => rfl⟩
theorem Mod.trans {B : List (Option Nat)} {a b c : Heap} (x : Mod B a b) (y : Mod B b c) : Mod B a c :=
  ⟨Nat.le_trans x.size y.size, fun k hk hn => (y.same k (Nat.lt_of_lt_of_le hk x.size) hn).trans (x.same k hk hn)⟩
theorem Mod.ext {h h' : Heap} (x : Mod [] h h') : Ext h h' := ⟨x.size, fun b hb => x.same b hb (by simp)⟩
theorem Ext.mod {h h' : Heap} (x : Ext h h') (B : List (Option Nat)) : Mod B h h' := ⟨x.size, fun b hb _ => x.blk b hb⟩
theorem Mod.of_chg {h h' : Heap} {x : Option Nat} (c : Chg (fun k => x = some k) h h') : Mod [x] h h' := ⟨c.size, fun b hb hn => c.blk b hb (fun e => hn (by simp [e]))⟩

theorem Sep.nil (B : List (Option Nat)) (n : Nat) (h : Heap) : Sep B n h [] := ⟨by simp, by simp, List.Pairwise.nil⟩
theorem Sep.one {B : List (Option Nat)} {n : Nat} {h : Heap} {o : Thing} (ho : o.holds h) (hb : ∀ b, o.blk = some b → b < h.size ∧ (n ≤ b ∨ some b ∈ B)) : Sep B n h [o] :=
  ⟨by simp [ho], by simpa using hb, by simp⟩
theorem Sep.ext {B : List (Option Nat)} {n : Nat} {h h' : Heap} {L : List Thing} (S : Sep B n h L) (x : Ext h h') : Sep B n h' L :=
  ⟨fun o ho => o.stable h h' x.size (fun b hb => x.blk b (S.blk o ho b hb).1) (S.holds o ho), fun o ho b hb => ⟨Nat.lt_of_lt_of_le (S.blk o ho b hb).1 x.size, (S.blk o ho b hb).2⟩, S.apart⟩
theorem Sep.at {B : List (Option Nat)} {n : Nat} {h : Heap} {L : List Thing} (S : Sep B n h L) (i : Nat) {o : Thing} (ho : L[i]? = some o) : o.holds h := S.holds o (List.mem_of_getElem? ho)
/-- all that is told of things of one's own may be told as a callee wants it -/
theorem Sep.own {B : List (Option Nat)} {n : Nat} {h : Heap} {L : List Thing} (S : Sep B n h L) (m : Nat) : Sep (L.map (·.blk)) m h L :=
  ⟨S.holds, fun o ho b hb => ⟨(S.blk o ho b hb).1, .inr (by rw [← hb]; exact List.mem_map_of_mem ho)⟩, S.apart⟩
theorem Sep.weak {B : List (Option Nat)} {n m : Nat} {h : Heap} {L : List Thing} (S : Sep B n h L) (hm : m ≤ n) : Sep B m h L :=
  ⟨S.holds, fun o ho b hb => ⟨(S.blk o ho b hb).1, (S.blk o ho b hb).2.imp (Nat.le_trans hm) id⟩, S.apart⟩

/-- some of them, in another order -/
theorem Sep.sel {B : List (Option Nat)} {n : Nat} {h : Heap} {L : List Thing} (S : Sep B n h L) (is : List Nat) (hi : is.Nodup) : Sep B n h (is.filterMap (L[·]?)) := by
  have hm : ∀ o ∈ is.filterMap (L[·]?), o ∈ L := by
    intro o ho
    obtain ⟨i, _, h1⟩ := List.mem_filterMap.1 ho
    exact List.mem_of_getElem? h1
  refine ⟨fun o ho => S.holds o (hm o ho), fun o ho => S.blk o (hm o ho), ?_⟩
  rw [List.pairwise_filterMap]
  refine List.Pairwise.imp ?_ hi
  intro i j hij o ho o' ho' b hb hb'
  have hi' := List.getElem?_eq_some_iff.1 ho
  have hj' := List.getElem?_eq_some_iff.1 ho'
  obtain ⟨h1, rfl⟩ := hi'
  obtain ⟨h2, rfl⟩ := hj'
  have hp := List.pairwise_iff_getElem.1 S.apart
  rcases Nat.lt_or_gt_of_ne hij with hlt | hlt
  · exact hp i j h1 h2 hlt b hb hb'
  · exact hp j i h2 h1 hlt b hb' hb

/-- one step: the things 'A' are turned into 'A'', the rest stays -/
theorem Sep.step {B : List (Option Nat)} {n : Nat} {h h' : Heap} {A L A' : List Thing} (S : Sep B n h (A ++ L)) (hn : n ≤ h.size) (M : Mod (A.map (·.blk)) h h') (T : Sep (A.map (·.blk)) h.size h' A') : Sep B n h' (A' ++ L) := by
  have hap := List.pairwise_append.1 S.apart
  have inA : ∀ b, some b ∈ A.map (·.blk) → ∃ o ∈ A, o.blk = some b := by
    intro b hb
    obtain ⟨o, ho, e⟩ := List.mem_map.1 hb
    exact ⟨o, ho, e⟩
  have notA : ∀ o ∈ L, ∀ b, o.blk = some b → some b ∉ A.map (·.blk) := by
    intro o ho b hb hm
    obtain ⟨o', ho', e⟩ := inA b hm
    exact hap.2.2 o' ho' o ho b e hb
  refine ⟨fun o ho => ?_, fun o ho b hb => ?_, ?_⟩
  · rcases List.mem_append.1 ho with ho | ho
    · exact T.holds o ho
    · have hL : o ∈ A ++ L := List.mem_append_right _ ho
      exact o.stable h h' M.size (fun b hb => M.same b (S.blk o hL b hb).1 (notA o ho b hb)) (S.holds o hL)
  · rcases List.mem_append.1 ho with ho | ho
    · obtain ⟨h1, h2⟩ := T.blk o ho b hb
      refine ⟨h1, ?_⟩
      rcases h2 with h2 | h2
      · exact .inl (Nat.le_trans hn h2)
      · obtain ⟨o', ho', e⟩ := inA b h2
        exact (S.blk o' (List.mem_append_left _ ho') b e).2
    · have hL : o ∈ A ++ L := List.mem_append_right _ ho
      exact ⟨Nat.lt_of_lt_of_le (S.blk o hL b hb).1 M.size, (S.blk o hL b hb).2⟩
  · refine List.pairwise_append.2 ⟨T.apart, hap.2.1, fun o ho o' ho' b hb hb' => ?_⟩
    rcases (T.blk o ho b hb).2 with h2 | h2
    · have := (S.blk o' (List.mem_append_right _ ho') b hb').1
      omega
    · exact notA o' ho' b hb' h2

theorem Mod.step {B : List (Option Nat)} {h0 h h' : Heap} {A L : List Thing} (X : Mod B h0 h) (S : Sep B h0.size h (A ++ L)) (M : Mod (A.map (·.blk)) h h') : Mod B h0 h' := by
  refine ⟨Nat.le_trans X.size M.size, fun b hb hn => ?_⟩
  rw [M.same b (Nat.lt_of_lt_of_le hb X.size) ?_, X.same b hb hn]
  intro hm
  obtain ⟨o, ho, e⟩ := List.mem_map.1 hm
  rcases (S.blk o (List.mem_append_left _ ho) b e).2 with h1 | h1
  · omega
  · exact hn h1

theorem Mod.lift {B : List (Option Nat)} {h0 h h' : Heap} (X : Mod B h0 h) (x : Ext h h') : Mod B h0 h' := X.trans (x.mod B)

section
variable {α : Type} {K : Kd α} {h0 h : Heap} {v : Value} {l : List α}
/-- what was handed in to be read only, in a later heap -/
theorem SL.mod {B : List (Option Nat)} {e : Nat} (H : SL K e h0 v l) (X : Mod B h0 h) (he : e ≤ h0.size) (hB : ∀ b, some b ∈ B → e ≤ b) : SL K e h v l := by
  have c : Chg (fun b => e ≤ b) h0 h := ⟨X.size, fun k hk hs => X.same k hk fun hm => hs (hB k hm)⟩
  exact H.chg c (fun b hb hs => by omega)
/-- and back -/
theorem SL.back {B : List (Option Nat)} {e : Nat} (H : SL K e h v l) (X : Mod B h0 h) (he : e ≤ h0.size) (hB : ∀ b, some b ∈ B → e ≤ b) : SL K e h0 v l := by
  obtain ⟨a, n, xs, hv, hr, hc⟩ := H
  refine ⟨a, n, xs, hv, hr, hc.imp id ?_⟩
  rintro ⟨p, hp, hsp, hb, hcell⟩
  refine ⟨p, hp, hsp, hb, fun j u hu => ?_⟩
  have hlt : (p.add j).block < e := by rw [addBlock]; exact hb
  have : h[(p.add j).block]? = h0[(p.add j).block]? := X.same _ (Nat.lt_of_lt_of_le hlt he) fun hm => by have := hB _ hm; omega
  exact (World.cell?_of_block (w := hw h) (w' := hw h0) this.symm).trans (hcell j u hu)
theorem Bx.mod {B : List (Option Nat)} {b : Nat} {cs : List Value} (H : Bx h0 b cs) (X : Mod B h0 h) (hB : some b ∉ B) : Bx h b cs := by
  have := H.lt
  obtain ⟨T, hT⟩ := H
  exact ⟨T, by rw [X.same b this hB]; exact hT⟩
end

/-! ### single operations -/
section
variable {P : Program} {φ : Fr} {h : Heap} {o : Oper} {α : Type} {K : Kd α}

def Made (h : Heap) (A : List Thing) (f : Value → List Thing) : Value → Heap → Prop := fun u h' => Mod (A.map (·.blk)) h h' ∧ Sep (A.map (·.blk)) h.size h' (f u)

theorem Own.zero {E : TypeId} {lo : Nat} {v : Value} {l : List α} (H : Own K E lo h v l) : Own K E 0 h v l := H.down (Nat.zero_le _)

theorem opS_lit0 {t E : TypeId} (ho : o.op = .buildSlice t 0 #[]) (ht : P.underlying t = some (.slice E)) (hinf : (P.info? E).isSome = true) :
    OpV P φ o h (Made h [] (fun u => [ownO K E u []])) :=
  (opv_lit0 (K := K) (lo := 0) ho ht hinf (Nat.zero_le _)).mono fun u h' ⟨h1, h2, h3, h4⟩ =>
    ⟨h2.mod _, Sep.one h1 (fun b hb => ⟨(h1.bounds b hb).2, .inl (h4 b hb)⟩)⟩

theorem opS_lit1 {t E : TypeId} {x : Operand} {u : Value} {z : α} {n b : Nat} {zz : Value} (ho : o.op = .buildSlice t 1 #[(0, x)]) (ht : P.underlying t = some (.slice E)) (hinf : elemInfo P E = some (zz, n, b)) (hn : n = 1) (hzz : zz.cells.size = 1) (hx : φ.ev x = some u) (h1 : K.size = 1) (hz : K.rel z [u]) :
    OpV P φ o h (Made h [] (fun v => [ownO K E v [z]])) :=
  (opv_lit1 ho ht hinf hn hzz hx (K.one z [u] hz u (by simp))).mono fun v h' ⟨g, hv, hg, hx, hs, hc⟩ => by
    subst hv
    have hown : Own K E 0 h' (.slice (some ⟨g, 0, none⟩) 1 1) [z] := by
      refine ⟨[u], ⟨by simp [h1], .inr ⟨g, 1, #[u], rfl, Nat.zero_le _, hc, Nat.le_refl _, by decide, by simp [h1], by simp [h1]⟩⟩, RelL.single hz⟩
    exact ⟨hx.mod _, Sep.one hown (fun b hb => by simp [ownO, Value.ownBlock] at hb; subst hb; exact ⟨by omega, .inl (by omega)⟩)⟩

theorem opS_append {t E : TypeId} {x y : Operand} {e : Nat} {v vy zz : Value} {l m : List α} {n b : Nat} (ho : o.op = .call { callee := .builtin .append, args := #[x, y], argTypes := #[t, t] }) (ht : P.underlying t = some (.slice E)) (hinf : elemInfo P E = some (zz, n, b)) (hn : n = K.size) (hzz : zz.cells.size = n)
    (hx : φ.ev x = some v) (hy : φ.ev y = some vy) (H : (ownO K E v l).holds h) (HY : SL K e h vy m) (hb : 0 < b) (hb2 : b ≤ 64) (hfit : l.length + m.length ≤ 1000000000) :
    OpV P φ o h (Made h [ownO K E v l] (fun u => [ownO K E u (l ++ m)])) :=
  (opv_append (lo := 0) ho ht hinf hn hzz hx hy H (Nat.zero_le _) HY (Nat.le_trans (Nat.mul_le_mul hfit hb2) (by decide)) hb).mono fun u h' ⟨h1, h2, h3⟩ =>
    ⟨Mod.of_chg h2, Sep.one h1 (fun k hk => ⟨(h1.bounds k hk).2, (h3 k hk).elim (fun e => .inr (by simp [ownO, e])) .inl⟩)⟩

theorem opS_make {t E : TypeId} {x y : Operand} {kl kc : IntKind} {n b : Nat} {m : Int} {zz : Value} {zx : α} {us : List Value} (ho : o.op = .makeSlice t x y) (ht : P.underlying t = some (.slice E)) (hinf : elemInfo P E = some (zz, n, b)) (hn : n = K.size) (hz : zz.cells.toList = us) (hr : K.rel zx us)
    (hx : φ.ev x = some (.int kl m)) (hy : φ.ev y = some (.int kc m)) (hb2 : b ≤ 64) (hm : 0 ≤ m ∧ m ≤ 1000000000) :
    OpV P φ o h (Made h [] (fun u => [ownO K E u (List.replicate m.toNat zx)])) :=
  (opv_make (lo := 0) ho ht hinf hn hz hr hx hy hm.1 (Nat.le_trans (Nat.mul_le_mul hb2 (show m.toNat ≤ 1000000000 by omega)) (by decide)) (by simp only [maxLen]; omega) (Nat.zero_le _)).mono fun u h' ⟨h1, h2, h3⟩ =>
    ⟨h2.mod _, Sep.one h1 (fun b hb => ⟨(h1.bounds b hb).2, .inl (h3 b hb)⟩)⟩

/-- one element written -/
def setF (l : List α) (n : Int) (z : α) : Option (List α) := if 0 ≤ n ∧ n.toNat < l.length then some (l.set n.toNat z) else none

theorem opS_storeE {t E : TypeId} {x y : Operand} {p u v : Value} {n : Int} {z : α} {l l' : List α} (ho : o.op = .store t x y) (ht : (P.info? t).map (·.size) = some 1) (h1 : K.size = 1) (hx : φ.ev x = some p) (hp : PtI 1 p v n.toNat) (hy : φ.ev y = some u) (hz : K.rel z [u]) (hs : setF l n z = some l') (H : (ownO K E v l).holds h) :
    OpV P φ o h (fun r h' => r = undef ∧ Made h [ownO K E v l] (fun _ => [ownO K E v l']) undef h') := by
  unfold setF at hs
  split at hs
  case isFalse => cases hs
  rename_i hi
  cases hs
  exact (opv_storeE ho ht h1 hx (by rw [h1]; exact hp) hy hz hi.2 H).mono fun r h' ⟨h2, h3, h4, h5⟩ =>
    ⟨h2, Mod.of_chg h4, Sep.one h3 (fun b hb => ⟨(h3.bounds b hb).2, .inr (by simp [ownO]; exact hb.symm)⟩)⟩

theorem opS_boxed {cs : List Value} (H : OpV P φ o h (Boxed h cs)) : OpV P φ o h (fun u h' => ∃ b, u = .pointer (some ⟨b, 0, none⟩) ∧ Made h [] (fun _ => [boxO b cs]) undef h') :=
  H.mono fun u h' ⟨b, hu, e, hx, hs, hw⟩ => ⟨b, hu, hx.mod _, Sep.one (o := boxO b cs) hw (fun k hk => by simp only [boxO, Option.some.injEq] at hk; subst hk; exact ⟨by omega, .inl (by omega)⟩)⟩
theorem opS_stored {cs cs' : List Value} {b : Nat} (H : OpV P φ o h (Stored h b cs')) (hb : (boxO b cs).holds h) : OpV P φ o h (fun u h' => u = undef ∧ Made h [boxO b cs] (fun _ => [boxO b cs']) undef h') :=
  H.mono fun u h' ⟨hu, hc, hs, hw⟩ => ⟨hu, ⟨hc.size, fun k hk hn => hc.blk k hk (fun e => hn (by simp [boxO, e]))⟩, Sep.one (o := boxO b cs') hw (fun k hk => by
    simp only [boxO, Option.some.injEq] at hk; subst hk; exact ⟨hw.lt, .inr (by simp [boxO])⟩)⟩

/-- a call's things, laid to what the caller has -/
theorem Sep.join {B : List (Option Nat)} {n : Nat} {h h' : Heap} {L A' : List Thing} (S : Sep B n h L) (hn : n ≤ h.size) (M : Mod [] h h') (T : Sep [] h.size h' A') : Sep B n h' (A' ++ L) :=
  Sep.step (A := []) S hn M T
end

theorem ownNil {α : Type} {K : Kd α} {E : TypeId} (h : Heap) : (ownO K E (.slice none 0 0) ([] : List α)).holds h := ⟨[], ⟨by simp, .inl ⟨rfl, rfl⟩⟩, rfl⟩
theorem ownO.read {α : Type} {K : Kd α} {E : TypeId} {v : Value} {l : List α} {h : Heap} (H : (ownO K E v l).holds h) : SL K h.size h v l := Own.read H (Nat.le_refl _)
theorem ownO.one {α : Type} {K : Kd α} {E : TypeId} {v : Value} {l : List α} {h : Heap} (H : (ownO K E v l).holds h) : v.oneCell' = true := (ownO.read H).one
theorem slNil {α : Type} {K : Kd α} (e : Nat) (h : Heap) : SL K e h (.slice none 0 0) ([] : List α) := ⟨none, 0, [], rfl, ⟨Nat.le_refl _, rfl⟩, .inl rfl⟩
theorem Sep.addNil {α : Type} {K : Kd α} {E : TypeId} {B : List (Option Nat)} {n : Nat} {h : Heap} {L : List Thing} (S : Sep B n h L) : Sep B n h (ownO K E (.slice none 0 0) ([] : List α) :: L) := by
  refine ⟨?_, ?_, List.pairwise_cons.2 ⟨?_, S.apart⟩⟩
  · intro o ho
    rcases List.mem_cons.1 ho with rfl | ho
    · exact ownNil h
    · exact S.holds o ho
  · intro o ho b hb
    rcases List.mem_cons.1 ho with rfl | ho
    · cases hb
    · exact S.blk o ho b hb
  · intro o _ b hb
    cases hb
theorem nob {e : Nat} : ∀ b, some b ∈ ([] : List (Option Nat)) → e ≤ b := by intro b hb; cases hb
theorem nobB {b : Nat} : some b ∉ ([] : List (Option Nat)) := by intro hb; cases hb
theorem of_ite {α : Type} {p : Prop} [Decidable p] {x : Option α} {r : α} (h : (if p then x else none) = some r) : p ∧ x = some r := by
  split at h
  · exact ⟨by assumption, h⟩
  · cases h
/-- the blocks of one's own things lie from 'lo' on -/
theorem Sep.ge {B : List (Option Nat)} {n lo : Nat} {h : Heap} {L : List Thing} (S : Sep B n h L) (hn : lo ≤ n) (hB : ∀ b, some b ∈ B → lo ≤ b) : ∀ b, some b ∈ L.map (·.blk) → lo ≤ b := by
  intro b hb
  obtain ⟨o, ho, e⟩ := List.mem_map.1 hb
  rcases (S.blk o ho b e).2 with h1 | h1
  · omega
  · exact hB b h1
theorem oneAll {u : Value} {us : List Value} (h : u.oneCell' = true) (t : us.all (·.oneCell') = true) : (u :: us).all (·.oneCell') = true := by
  rw [List.all_cons, t, Bool.and_true]; exact h
end Go.H
