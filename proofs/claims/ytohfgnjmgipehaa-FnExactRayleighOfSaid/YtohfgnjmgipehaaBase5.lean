/- Rows of cells, as lists. -/
import Derived.Test.YtohfgnjmgipehaaBase4
namespace Go.H
open Go

def hw (h : Heap) : World := { heap := h, tape := fun _ _ => 0, drawn := 0, os := default, output := #[] }

theorem cell_hw {w : World} {h : Heap} (hw' : w.heap = h) (a : Addr) : w.cell? a = (hw h).cell? a := by subst hw'; rfl

/-- a kind of elements: what cells tell what -/
structure Kd (α : Type) where
  size : Nat
  rel : α → List Value → Prop
  len : ∀ x us, rel x us → us.length = size
  one : ∀ x us, rel x us → ∀ u ∈ us, u.oneCell' = true
  pos : 0 < size

def RelL {α : Type} (K : Kd α) : List α → List Value → Prop
  | [], xs => xs = []
  | x :: l, xs => ∃ us r, xs = us ++ r ∧ K.rel x us ∧ RelL K l r

section
variable {α : Type} {K : Kd α}

theorem RelL.length : ∀ {l : List α} {xs : List Value}, RelL K l xs → xs.length = l.length * K.size
  | [], _, h => by simp [RelL] at h; simp [h]
  | x :: l, _, ⟨us, r, e, h1, h2⟩ => by rw [e, List.length_append, K.len x us h1, h2.length, List.length_cons, Nat.add_mul, Nat.one_mul, Nat.add_comm]

theorem RelL.append : ∀ {l m : List α} {xs ys : List Value}, RelL K l xs → RelL K m ys → RelL K (l ++ m) (xs ++ ys)
  | [], _, _, _, h, k => by simp [RelL] at h; subst h; exact k
  | _ :: _, _, _, _, ⟨us, r, e, h1, h2⟩, k => ⟨us, r ++ _, by rw [e, List.append_assoc], h1, h2.append k⟩

theorem RelL.single {x : α} {us : List Value} (h : K.rel x us) : RelL K [x] us := ⟨us, [], by simp, h, rfl⟩

theorem RelL.get : ∀ {l : List α} {xs : List Value} (_ : RelL K l xs) {i : Nat} {x : α}, l[i]? = some x → ∃ us, K.rel x us ∧ ∀ j u, us[j]? = some u → xs[i * K.size + j]? = some u
  | [], _, _, _, _, hi => by simp at hi
  | y :: l, _, ⟨us, r, e, h1, h2⟩, 0, x, hi => by
    simp only [List.getElem?_cons_zero, Option.some.injEq] at hi
    subst hi
    refine ⟨us, h1, fun j u hu => ?_⟩
    rw [e, Nat.zero_mul, Nat.zero_add, List.getElem?_append_left (List.getElem?_eq_some_iff.1 hu).1]; exact hu
  | y :: l, _, ⟨us, r, e, h1, h2⟩, i + 1, x, hi => by
    obtain ⟨vs, h3, h4⟩ := h2.get (i := i) (x := x) (by simpa using hi)
    refine ⟨vs, h3, fun j u hu => ?_⟩
    have := h4 j u hu
    rw [e, List.getElem?_append_right (by rw [K.len y us h1, Nat.add_mul, Nat.one_mul]; omega), K.len y us h1]
    rw [show (i + 1) * K.size + j - K.size = i * K.size + j from by rw [Nat.add_mul, Nat.one_mul]; omega]
    exact this

theorem RelL.one : ∀ {l : List α} {xs : List Value}, RelL K l xs → ∀ u ∈ xs, u.oneCell' = true
  | [], _, h, u, hu => by simp [RelL] at h; subst h; simp at hu
  | x :: l, _, ⟨us, r, e, h1, h2⟩, u, hu => by
    rw [e] at hu
    rcases List.mem_append.1 hu with h | h
    · exact K.one x us h1 u h
    · exact h2.one u h

theorem RelL.take : ∀ {l : List α} {xs : List Value} (_ : RelL K l xs) (n : Nat), RelL K (l.take n) (xs.take (n * K.size))
  | [], _, h, n => by simp [RelL] at h; subst h; simp [RelL]
  | x :: l, _, _, 0 => by simp [RelL]
  | x :: l, _, ⟨us, r, e, h1, h2⟩, n + 1 => by
    refine ⟨us, r.take (n * K.size), ?_, h1, h2.take n⟩
    rw [e, List.take_append, K.len x us h1, Nat.add_mul, Nat.one_mul, List.take_of_length_le (by rw [K.len x us h1]; omega), Nat.add_sub_cancel]

theorem RelL.drop : ∀ {l : List α} {xs : List Value} (_ : RelL K l xs) (n : Nat), RelL K (l.drop n) (xs.drop (n * K.size))
  | [], _, h, n => by simp [RelL] at h; subst h; simp [RelL]
  | x :: l, _, h, 0 => by simpa using h
  | x :: l, _, ⟨us, r, e, h1, h2⟩, n + 1 => by
    have e1 : us.drop (n * K.size + K.size) = [] := List.drop_of_length_le (by rw [K.len x us h1]; omega)
    rw [e, List.drop_append, K.len x us h1, Nat.add_mul, Nat.one_mul, e1, Nat.add_sub_cancel]
    simpa using h2.drop n

/-- one element written anew -/
theorem RelL.set : ∀ {l : List α} {xs : List Value} (_ : RelL K l xs) {i : Nat} (_ : i < l.length) {x : α} {us : List Value} (_ : K.rel x us),
    RelL K (l.set i x) (xs.take (i * K.size) ++ us ++ xs.drop ((i + 1) * K.size))
  | [], _, _, _, hi, _, _, _ => by simp at hi
  | y :: l, _, ⟨vs, r, e, h1, h2⟩, 0, _, x, us, hu => by
    refine ⟨us, r, ?_, hu, h2⟩
    rw [e, Nat.zero_mul, Nat.zero_add, Nat.one_mul, List.take_zero, List.nil_append, List.drop_append, K.len y vs h1, List.drop_of_length_le (by rw [K.len y vs h1]; omega)]
    simp
  | y :: l, _, ⟨vs, r, e, h1, h2⟩, i + 1, hi, x, us, hu => by
    refine ⟨vs, r.take (i * K.size) ++ us ++ r.drop ((i + 1) * K.size), ?_, h1, h2.set (by simpa using hi) hu⟩
    have hv := K.len y vs h1
    rw [e, List.take_append, hv, List.take_of_length_le (by rw [hv, Nat.add_mul, Nat.one_mul]; omega), List.drop_append, hv, List.drop_of_length_le (by rw [hv, Nat.add_mul, Nat.one_mul]; omega)]
    rw [show (i + 1) * K.size - K.size = i * K.size from by rw [Nat.add_mul, Nat.one_mul]; omega, show (i + 1 + 1) * K.size - K.size = (i + 1) * K.size from by rw [Nat.add_mul (i + 1), Nat.one_mul]; omega]
    simp [List.append_assoc]

theorem RelL.replicate {x : α} {us : List Value} (h : K.rel x us) : ∀ n, RelL K (List.replicate n x) (List.replicate n us).flatten
  | 0 => rfl
  | n + 1 => ⟨us, (List.replicate n us).flatten, by simp [List.replicate_succ], h, RelL.replicate h n⟩
end

/-- the heap but for the blocks of S -/
structure Chg (S : Nat → Prop) (h h' : Heap) : Prop where
  size : h.size ≤ h'.size
  blk : ∀ b, b < h.size → ¬ S b → h'[b]? = h[b]?

theorem Ext.chg {h h' : Heap} (e : Ext h h') (S : Nat → Prop) : Chg S h h' := ⟨e.size, fun b hb _ => e.blk b hb⟩
theorem Chg.refl (S : Nat → Prop) (h : Heap) : Chg S h h := ⟨Nat.le_refl _, fun _ _ _ => rfl⟩
theorem Chg.trans {S : Nat → Prop} {a b c : Heap} (x : Chg S a b) (y : Chg S b c) : Chg S a c :=
  ⟨Nat.le_trans x.size y.size, fun k hk hs => (y.blk k (Nat.lt_of_lt_of_le hk x.size) hs).trans (x.blk k hk hs)⟩
theorem Chg.mono {S T : Nat → Prop} {a b : Heap} (x : Chg S a b) (hst : ∀ k, k < a.size → S k → T k) : Chg T a b :=
  ⟨x.size, fun k hk hs => x.blk k hk fun h => hs (hst k hk h)⟩
theorem Chg.ext {S : Nat → Prop} {a b : Heap} (x : Chg S a b) (hs : ∀ k, k < a.size → ¬ S k) : Ext a b := ⟨x.size, fun k hk => x.blk k hk (hs k hk)⟩

theorem cell_chg {S : Nat → Prop} {h h' : Heap} (c : Chg S h h') {a : Addr} {v : Value} (hv : (hw h).cell? a = some v) (hs : ¬ S a.block) : (hw h').cell? a = some v := by
  have hlt : a.block < h.size := World.block_lt_of_cell? (hw h) a hv
  have : h'[a.block]? = h[a.block]? := c.blk _ hlt hs
  exact (World.cell?_of_block (w := hw h) (w' := hw h') this).trans hv

/-- the slice 'v' reads 'l'; what it reads lies below block 'e' -/
def SL {α : Type} (K : Kd α) (e : Nat) (h : Heap) (v : Value) (l : List α) : Prop :=
  ∃ a c xs, v = .slice a l.length c ∧ (l.length ≤ c ∧ RelL K l xs) ∧ (l = [] ∨ ∃ p, a = some p ∧ p.spot = none ∧ p.block < e ∧ ∀ j u, xs[j]? = some u → (hw h).cell? (p.add j) = some u)

def blkOf : Value → Option Nat
  | .slice (some a) _ _ => some a.block
  | .pointer (some a) => some a.block
  | _ => none

theorem addBlock (p : Addr) (j : Nat) : (p.add j).block = p.block := by unfold Addr.add; split <;> rfl

section
variable {α : Type} {K : Kd α} {h h' : Heap} {v : Value} {l : List α}

theorem SL.chg {e : Nat} {S : Nat → Prop} (H : SL K e h v l) (c : Chg S h h') (hs : ∀ b, b < e → ¬ S b) : SL K e h' v l := by
  obtain ⟨a, n, xs, hv, hr, hc⟩ := H
  refine ⟨a, n, xs, hv, hr, hc.imp id ?_⟩
  rintro ⟨p, hp, hsp, hb, hcell⟩
  exact ⟨p, hp, hsp, hb, fun j u hu => cell_chg c (hcell j u hu) (by rw [addBlock]; exact hs _ hb)⟩

theorem SL.ext {e : Nat} (H : SL K e h v l) (c : Ext h h') : SL K e h' v l := H.chg (c.chg fun _ => False) (fun _ _ h => h)

theorem SL.up {e e' : Nat} (H : SL K e h v l) (he : e ≤ e') : SL K e' h v l := by
  obtain ⟨a, n, xs, hv, hr, hc⟩ := H
  exact ⟨a, n, xs, hv, hr, hc.imp id fun ⟨p, hp, hsp, hb, hcell⟩ => ⟨p, hp, hsp, Nat.lt_of_lt_of_le hb he, hcell⟩⟩

/-- a slice of the call's own: nil, or a row from its begin on, in a block from 'lo' on -/
def Own {α : Type} (K : Kd α) (E : TypeId) (lo : Nat) (h : Heap) (v : Value) (l : List α) : Prop :=
  ∃ xs, (hw h).ownsRow lo E K.size v l.length xs ∧ RelL K l xs

theorem Own.down {E : TypeId} {lo lo' : Nat} (H : Own K E lo h v l) (hl : lo' ≤ lo) : Own K E lo' h v l := by
  obtain ⟨xs, ⟨h1, h2⟩, hr⟩ := H
  exact ⟨xs, ⟨h1, h2.imp id fun ⟨g, cap, cur, hv, hb, rest⟩ => ⟨g, cap, cur, hv, Nat.le_trans hl hb, rest⟩⟩, hr⟩

theorem Own.bounds {E : TypeId} {lo : Nat} (H : Own K E lo h v l) : ∀ b, v.ownBlock = some b → lo ≤ b ∧ b < h.size := by
  obtain ⟨xs, h1, _⟩ := H
  exact h1.lt

theorem Own.chg {E : TypeId} {lo : Nat} {S : Nat → Prop} (H : Own K E lo h v l) (c : Chg S h h') (hs : ∀ b, v.ownBlock = some b → ¬ S b) : Own K E lo h' v l := by
  obtain ⟨xs, ⟨h1, h2⟩, hr⟩ := H
  refine ⟨xs, ⟨h1, h2.imp id ?_⟩, hr⟩
  rintro ⟨g, cap, cur, rfl, hb, hg, rest⟩
  refine ⟨g, cap, cur, rfl, hb, ?_, rest⟩
  have hlt : g < h.size := (Array.getElem?_eq_some_iff.1 hg).1
  show h'[g]? = _
  rw [c.blk g hlt (hs g rfl)]
  exact hg

theorem Own.ext {E : TypeId} {lo : Nat} (H : Own K E lo h v l) (c : Ext h h') : Own K E lo h' v l := H.chg (c.chg fun _ => False) (fun _ _ h => h)

theorem Own.read {E : TypeId} {lo e : Nat} (H : Own K E lo h v l) (he : h.size ≤ e) : SL K e h v l := by
  obtain ⟨xs, h1, hr⟩ := H
  have h1' := h1
  obtain ⟨hlen, h2⟩ := h1
  rcases h2 with ⟨rfl, hn⟩ | ⟨g, cap, cur, rfl, hb, hg, rest⟩
  · have : l = [] := List.eq_nil_of_length_eq_zero hn
    subst this
    exact ⟨none, 0, xs, rfl, ⟨Nat.le_refl _, hr⟩, .inl rfl⟩
  · refine ⟨some ⟨g, 0, none⟩, cap, xs, rfl, ⟨rest.1, hr⟩, .inr ⟨⟨g, 0, none⟩, rfl, rfl, Nat.lt_of_lt_of_le (Array.getElem?_eq_some_iff.1 hg).1 he, ?_⟩⟩
    exact h1'.cells (g := g) rfl
end
end Go.H
