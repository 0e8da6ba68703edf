/- Maps from int64 to bool. -/
import Derived.Test.YtohfgnjmgipehaaBase20
import Derived.MapKept
set_option linter.unusedVariables false
namespace Go.H
open Go

/-- block r holds a map with these entries, in this order -/
def MapH (h : Heap) (r : Nat) (l : List (Int × Bool)) : Prop := ∃ es clock, h[r]? = some (.map es clock) ∧ es.toList.map (fun e => (e.key, e.val)) = l.map (fun p => (Value.int .i64 p.1, Value.bool p.2))

def mapO (r : Nat) (l : List (Int × Bool)) : Thing where
  blk := some r
  holds h := MapH h r l
  stable h h' hs hb H := by
    obtain ⟨es, c, h1, h2⟩ := H
    exact ⟨es, c, by rw [hb r rfl]; exact h1, h2⟩

def mapGet (l : List (Int × Bool)) (k : Int) : Bool := match l.find? (fun p => p.1 == k) with
  | some p => p.2
  | none => false

theorem MapH.lt {h : Heap} {r : Nat} {l : List (Int × Bool)} (H : MapH h r l) : r < h.size := by
  obtain ⟨es, c, h1, _⟩ := H
  exact (Array.getElem?_eq_some_iff.1 h1).1

theorem findNow_pairs (k : Int) : ∀ (es : List MapEntry) (l : List (Int × Bool)) (i : Nat), es.map (fun e => (e.key, e.val)) = l.map (fun p => (Value.int .i64 p.1, Value.bool p.2)) →
    (Instr.findNow (.int .i64) (.int .i64 k) es i = some none ∧ l.find? (fun p => p.1 == k) = none) ∨ ∃ j p, Instr.findNow (.int .i64) (.int .i64 k) es i = some (some (j, .bool p.2)) ∧ l.find? (fun p => p.1 == k) = some p
  | [], [], _, _ => .inl ⟨rfl, rfl⟩
  | [], _ :: _, _, h => by simp at h
  | _ :: _, [], _, h => by simp at h
  | e :: es, p :: l, i, h => by
    simp only [List.map_cons, List.cons.injEq, Prod.mk.injEq] at h
    obtain ⟨⟨h1, h2⟩, h3⟩ := h
    unfold Instr.findNow
    rw [h1]
    have hs : Instr.sameNow (.int .i64) (.int .i64 k) (.int .i64 p.1) = some (k == p.1) := by simp [Instr.sameNow]
    rw [hs]
    by_cases hk : k = p.1
    · subst hk
      refine .inr ⟨i, p, by simp [h2], by simp⟩
    · have e1 : (k == p.1) = false := by simpa using hk
      have e2 : (p.1 == k) = false := by simpa using fun h => hk h.symm
      rw [e1, List.find?_cons, e2]
      exact findNow_pairs k es l (i + 1) h3

section
variable {P : Program} {φ : Fr} {h : Heap} {o : Oper}

theorem opS_makeMap {t : TypeId} (ho : o.op = .makeMap t none) : OpV P φ o h (fun u h' => ∃ r, u = .map (some r) ∧ Made h [] (fun _ => [mapO r []]) undef h') := by
  intro a w hev hw'
  subst hw'
  refine .inl ⟨.map (some w.heap.size), w.alloc (.map #[] 0), ?_, ⟨rfl, rfl, rfl⟩, w.heap.size, rfl, (ext_push _ _).mod _, ?_⟩
  · simp [execOp, ho, Instr.makeMap]
  · refine Sep.one (o := mapO w.heap.size []) ⟨#[], 0, (Go.MapKept.heap_alloc w _).1, rfl⟩ (fun k hk => ?_)
    simp only [mapO, Option.some.injEq] at hk
    subst hk
    exact ⟨by show w.heap.size < (w.heap.push _).size; simp, .inl (Nat.le_refl _)⟩

theorem opv_lookup {t kt et : TypeId} {x ix : Operand} {r : Nat} {l : List (Int × Bool)} {n : Int} (ho : o.op = .lookup t x ix false) (ht : P.underlying t = some (.map kt et)) (hk : P.underlying kt = some (.int .i64)) (hz : (P.info? et).bind (·.zero) = some (.bool false)) (hx : φ.ev x = some (.map (some r))) (hi : φ.ev ix = some (.int .i64 n)) (H : MapH h r l) : OpV P φ o h (Det (.bool (mapGet l n)) h) := by
  intro a w hev hw'
  obtain ⟨es, c, h1, h2⟩ := H
  rw [← hw'] at h1
  obtain ⟨ti, hti, htz⟩ := Option.bind_eq_some_iff.1 hz
  refine .inl ⟨_, w, ?_, Same.refl w, rfl, hw'.symm⟩
  have hg : (getObj r).run P w = .ok (.map es c) w := Go.MapKept.run_getObj_map (P := P) h1
  have hc := Go.MapKept.run_checkKey (P := P) (w := w) (k := .int .i64 n) hk rfl es.isEmpty 9999
  rcases findNow_pairs n es.toList l 0 h2 with ⟨g1, g2⟩ | ⟨j, p, g1, g2⟩
  · have hf := Go.MapKept.run_findKey (P := P) (w := w) hk g1
    simp [execOp, ho, hev x _ hx, hev ix _ hi, Instr.lookup, run_underlying ht, hg, hc, hf, zeroValue, typeInfo, hti, htz, mapGet, g2]
  · have hf := Go.MapKept.run_findKey (P := P) (w := w) hk g1
    simp [execOp, ho, hev x _ hx, hev ix _ hi, Instr.lookup, run_underlying ht, hg, hc, hf, mapGet, g2]

theorem opS_mapUpdate {t kt et : TypeId} {m k x : Operand} {r : Nat} {l : List (Int × Bool)} {n : Int} {b : Bool} (ho : o.op = .mapUpdate t m k x) (ht : P.underlying t = some (.map kt et)) (hk : P.underlying kt = some (.int .i64)) (hm : φ.ev m = some (.map (some r))) (hn : φ.ev k = some (.int .i64 n)) (hx : φ.ev x = some (.bool b)) (hf : l.all (fun p => p.1 != n) = true) (H : (mapO r l).holds h) :
    OpV P φ o h (fun u h' => u = undef ∧ Made h [mapO r l] (fun _ => [mapO r (l ++ [(n, b)])]) undef h') := by
  intro a w hev hw'
  subst hw'
  obtain ⟨es, c, h1, h2⟩ := H
  have hlt : r < w.heap.size := (Array.getElem?_eq_some_iff.1 h1).1
  have hg : (getObj r).run P w = .ok (.map es c) w := Go.MapKept.run_getObj_map (P := P) h1
  have hc := Go.MapKept.run_checkKey (P := P) (w := w) (k := .int .i64 n) hk rfl false 9999
  have hno : l.find? (fun p => p.1 == n) = none := by
    rw [List.find?_eq_none]
    intro p hp
    have := List.all_eq_true.1 hf p hp
    simpa using this
  have g1 : Instr.findNow (.int .i64) (.int .i64 n) es.toList 0 = some none := by
    rcases findNow_pairs n es.toList l 0 h2 with ⟨g1, _⟩ | ⟨j, p, _, g2⟩
    · exact g1
    · rw [hno] at g2; cases g2
  have hfk := Go.MapKept.run_findKey (P := P) (w := w) hk g1
  have hset := Go.MapKept.run_setObj_map (P := P) (.map (es.push { key := .int .i64 n, val := .bool b, born := c }) (c + 1)) h1
  obtain ⟨s1, s2⟩ := Go.MapKept.heap_set (o' := .map (es.push { key := .int .i64 n, val := .bool b, born := c }) (c + 1)) h1
  refine .inr (.inl ⟨{ w with heap := w.heap.setIfInBounds r (.map (es.push { key := .int .i64 n, val := .bool b, born := c }) (c + 1)) }, ?_, ⟨rfl, rfl, rfl⟩, rfl, ⟨by simp, fun q hq hn' => s2 q (fun e => hn' (by simp [mapO, e]))⟩, ?_⟩)
  · simp [execOp, ho, hev m _ hm, hev k _ hn, hev x _ hx, Instr.mapUpdate, run_underlying ht, hg, hc, hfk, hset]
  · refine Sep.one (o := mapO r (l ++ [(n, b)])) ⟨_, _, s1, by simp [h2]⟩ (fun q hq => ?_)
    simp only [mapO, Option.some.injEq] at hq
    subst hq
    exact ⟨by show r < (w.heap.setIfInBounds r _).size; simpa using hlt, .inr (by simp [mapO])⟩
end
end Go.H
