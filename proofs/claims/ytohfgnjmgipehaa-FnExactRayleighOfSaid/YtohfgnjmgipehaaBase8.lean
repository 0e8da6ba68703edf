/- Makes, cuts, loads of aggregates, complex numbers, strings. -/
import Derived.Test.YtohfgnjmgipehaaBase7
namespace Go.H
open Go

section
variable {P : Program} {φ : Fr} {h : Heap} {o : Oper} {α : Type} {K : Kd α} {e : Nat} {v : Value} {l : List α}

theorem made_rel {z : Value} {x : α} {us : List Value} (hz : z.cells.toList = us) (hr : K.rel x us) (n : Nat) : RelL K (List.replicate n x) (madeCells z.cells (n * K.size)).toList := by
  have hs := K.len x us hr
  have key : (madeCells z.cells (n * K.size)).toList = (List.replicate n us).flatten := by
    have hzs : z.cells.size = K.size := by rw [← hs, ← hz]; rfl
    refine List.ext_getElem? fun i => ?_
    have hfl : (List.replicate n us).flatten.length = n * K.size := by simp [hs]
    rcases Nat.lt_or_ge i (n * K.size) with hi | hi
    · have h1 : (madeCells z.cells (n * K.size)).toList[i]? = some (z.cells[i % K.size]!) := by
        simp [madeCells, hi, hzs]
      rw [h1]
      have hmod : i % K.size < K.size := Nat.mod_lt _ K.pos
      have h2 : (List.replicate n us).flatten[i]? = us[i % K.size]? := by
        clear h1 hfl
        induction n generalizing i with
        | zero => simp at hi
        | succ n ih =>
          rw [List.replicate_succ, List.flatten_cons]
          rcases Nat.lt_or_ge i K.size with h3 | h3
          · rw [List.getElem?_append_left (by omega), Nat.mod_eq_of_lt h3]
          · rw [List.getElem?_append_right (by omega), hs]
            have := ih (i - K.size) (by rw [Nat.add_mul, Nat.one_mul] at hi; omega) (Nat.mod_lt _ K.pos)
            rw [this, Nat.mod_eq_sub_mod h3]
      rw [h2, ← hz]
      simp [hzs, hmod]
    · rw [List.getElem?_eq_none (by simp [size_madeCells]; omega), List.getElem?_eq_none (by omega)]
  rw [key]
  exact RelL.replicate hr n

/-- make([]T, n) -/
theorem opv_make {t E : TypeId} {x y : Operand} {kl kc : IntKind} {lo n b : Nat} {m : Int} {zz : Value} {zx : α} {us : List Value} (ho : o.op = .makeSlice t x y) (ht : P.underlying t = some (.slice E)) (hinf : elemInfo P E = some (zz, n, b)) (hn : n = K.size) (hz : zz.cells.toList = us) (hr : K.rel zx us)
    (hx : φ.ev x = some (.int kl m)) (hy : φ.ev y = some (.int kc m)) (h0 : 0 ≤ m) (hfit : b * m.toNat ≤ 281474976710656) (hmax : m.toNat ≤ maxLen) (hlo : lo ≤ h.size) :
    OpV P φ o h (fun v h' => Own K E lo h' v (List.replicate m.toNat zx) ∧ Ext h h' ∧ ∀ k, v.ownBlock = some k → h.size ≤ k) := by
  intro a w hev hw'
  subst hw'
  obtain ⟨i, hi, hiz, hs, hby⟩ := elemInfo_some hinf
  obtain ⟨k, rfl⟩ : ∃ k : Nat, m = k := ⟨m.toNat, by omega⟩
  simp only [Int.toNat_natCast] at *
  obtain ⟨w', h1, h2, h3⟩ := run_make_full (P := P) w lo t E i zz K.size ht hi hiz (by omega) kl kc k (by rw [hby]; exact hfit) hmax hlo
  refine .inl ⟨_, w', by simp [execOp, ho, hev x _ hx, hev y _ hy, h1]; rfl, ⟨h3.tape, h3.os, h3.output⟩, ⟨_, by rw [List.length_replicate]; exact h2, made_rel hz hr k⟩, (grown_heap h3).ext (fun _ _ hk => by cases hk), fun b hb => ?_⟩
  simp only [Value.ownBlock, Option.some.injEq] at hb
  omega

def sub {α : Type} (l : List α) (i j : Int) : Option (List α) := if 0 ≤ i ∧ i ≤ j ∧ j ≤ l.length then some ((l.drop i.toNat).take (j.toNat - i.toNat)) else none

theorem add_add (p : Addr) (i j : Nat) (hs : p.spot = none) : (p.add i).add j = p.add (i + j) := by
  obtain ⟨b, o, s⟩ := p
  simp at hs
  subst hs
  rw [add_lit, add_lit, add_lit, Nat.add_assoc]

/-- xs[i:j] -/
theorem opv_cut {t E : TypeId} {x : Operand} {lo hi : Option Operand} {i j : Int} {m : List α} (ho : o.op = .slice t x lo hi none) (ht : P.underlying t = some (.slice E)) (hsz : (P.info? E).map (·.size) = some K.size) (hx : φ.ev x = some v)
    (hlo : (lo = none ∧ i = 0) ∨ ∃ y k, lo = some y ∧ φ.ev y = some (.int k i)) (hhi : (hi = none ∧ j = l.length) ∨ ∃ y k, hi = some y ∧ φ.ev y = some (.int k j)) (H : SL K e h v l) (hm : sub l i j = some m) :
    OpV P φ o h (fun u h' => SL K e h u m ∧ h = h') := by
  intro a w hev hw'
  subst hw'
  obtain ⟨p, c, xs, rfl, ⟨hlc, hr⟩, hc⟩ := H
  unfold sub at hm
  split at hm
  case isFalse => cases hm
  rename_i hb
  obtain ⟨h0, h1, h2⟩ := hb
  cases hm
  obtain ⟨info, hinfo, hsize⟩ := Option.map_eq_some_iff.1 hsz
  have hml : ((l.drop i.toNat).take (j.toNat - i.toNat)).length = j.toNat - i.toNat := by simp; omega
  refine .inl ⟨.slice (if c = i.toNat then p else p.map (·.add (i.toNat * K.size))) (j.toNat - i.toNat) (c - i.toNat), w, ?_, Same.refl w, ⟨_, _, (xs.drop (i.toNat * K.size)).take ((j.toNat - i.toNat) * K.size), by rw [hml], ⟨by omega, (hr.drop _).take _⟩, ?_⟩, rfl⟩
  · have hbounds : ∀ w : World, (Instr.sliceBounds true l.length c (lo.map a.eval) (hi.map a.eval) none).run P w = .ok (i.toNat, j.toNat, c) w := by
      intro w
      have hj : (j : Int) ≤ (c : Int) := by omega
      rcases hhi with ⟨rfl, rfl⟩ | ⟨y, k, rfl, hy⟩ <;> rcases hlo with ⟨rfl, rfl⟩ | ⟨z, k', rfl, hz⟩
      · simp [Instr.sliceBounds]
      · simp [Instr.sliceBounds, Instr.sliceBound, asIntOf, hev z _ hz, h0, h1]
      · simp [Instr.sliceBounds, Instr.sliceBound, asIntOf, hev y _ hy, h1, hj]
      · have : 0 ≤ j := by omega
        simp [Instr.sliceBounds, Instr.sliceBound, asIntOf, hev y _ hy, hev z _ hz, h0, hj, this]
        intro hh
        omega
    have hrun : (Instr.sliceAt t (.slice p l.length c) (lo.map a.eval) (hi.map a.eval) none).run P w = .ok (.slice (if c = i.toNat then p else p.map (·.add (i.toNat * K.size))) (j.toNat - i.toNat) (c - i.toNat)) w := by
      simp [Instr.sliceAt, run_underlying ht, Instr.slice, hbounds, sizeOf, typeInfo, hinfo, hsize]
    have hx' := hev x _ hx
    simp only [execOp, ho, hx', Option.map_none]
    simp [hrun]
  · by_cases hemp : j.toNat - i.toNat = 0
    · exact .inl (by rw [hemp]; simp)
    · refine .inr ?_
      rcases hc with rfl | ⟨q, rfl, hsp, hqb, hcell⟩
      · simp at h2; omega
      · have hne : ¬ c = i.toNat := by omega
        refine ⟨q.add (i.toNat * K.size), by rw [if_neg hne]; rfl, ?_, by rw [addBlock]; exact hqb, fun k u hk => ?_⟩
        · obtain ⟨b, off, s⟩ := q
          simp at hsp
          subst hsp
          rw [add_lit]
        · rw [add_add _ _ _ hsp]
          rw [List.getElem?_take] at hk
          split at hk
          · rw [List.getElem?_drop] at hk; exact hcell _ _ hk
          · cases hk
end
end Go.H
