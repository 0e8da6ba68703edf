/- slices.SortFunc of lists of lists by slices.Compare. -/
import Derived.Test.YtjlnfficehomhaaGreatDoorLibB
import Derived.Test.YtjlnfficehomhaaGreatDoorGShelf
import Derived.Test.YtjlnfficehomhaaGreatDoorGSort
import Derived.Test.YtjlnfficehomhaaGreatDoorPLex
set_option linter.unusedVariables false
namespace Go.H
open Go Go.Proofs Go.Shelf Go.RowKit Go.Lib Go.Sort

/-- the order of lists: by their first difference, the shorter one first -/
def lexLe (a b : List Int) : Bool := !decide (lexC b a < 0)
noncomputable def slices_SortFunc_LL (a0 : List (List Int)) : Option (List (List Int)) := if a0.length ≤ 1000000000 ∧ a0.Nodup ∧ ∀ l ∈ a0, l.length ≤ 1000000000 then some (a0.mergeSort lexLe) else none

theorem relV : ∀ {l xs : List Value}, RelL kV l xs → xs = l
 | [], xs, h => h
 | x :: l, xs, ⟨us, r, h1, ⟨h2, _⟩, h3⟩ => by rw [h1, h2, relV h3]; rfl
theorem relV_mk : ∀ l : List Value, (∀ u ∈ l, u.oneCell' = true) → RelL kV l l
 | [], _ => rfl
 | x :: l, h => ⟨[x], l, rfl, ⟨rfl, h x List.mem_cons_self⟩, relV_mk l fun u hu => h u (List.mem_cons_of_mem _ hu)⟩

theorem lex_lt (a b : List Int) : lexC a b < 0 ↔ lexC a b = -1 := by have := lexC_val a b; omega
theorem swo_lex {N : Nat} (ls : Fin N → List Int) : SWO (ltOf fun i j => lexC (ls i) (ls j)) where
 irrefl x := by
  show decide (lexC (ls x) (ls x) < 0) = false
  rw [lexC_self]; rfl
 trans x y z h k := by
  unfold ltOf at *
  simp only [decide_eq_true_eq, lex_lt] at *
  exact lexC_trans _ _ _ h k
 ntrans x y z h k := by
  unfold ltOf at *
  simp only [decide_eq_false_iff_not, lex_lt] at *
  intro hh
  rcases lexC_val (ls x) (ls y) with e | e | e
  ·exact h e
  ·rw [lexC_eq _ _ e] at hh; exact k hh
  ·have e2 : lexC (ls y) (ls x) = -1 := by rw [lexC_anti, e]
   exact k (lexC_trans _ _ _ e2 hh)

theorem world_drew {w w' : World} (hs : HD.Same w w') (hh : w'.heap = w.heap) : ∃ q, w' = Sort.grow (w.drewN q) #[] := by
 refine ⟨w'.drawn - w.drawn, ?_⟩
 rw [grow_empty]
 obtain ⟨t1, t2, t3, t4⟩ := hs
 cases w' with
 | mk h t d o u =>
  cases w with
  | mk h2 t5 d2 o2 u2 =>
   simp only at t1 t2 t3 t4 hh
   subst t1 t2 t3 hh
   simp only [World.drewN, World.mk.injEq, true_and, and_true]
   omega

theorem slices_SortFunc_LL_ok (h0 : Heap) (w0 : OO) (a0 : List (List Int)) (S0 : Sep (List.flatMap (fun o : Thing => o.blks) [ooW 38 2 w0 a0]) h0.size h0 [ooW 38 2 w0 a0]) (r : List (List Int)) (hp : slices_SortFunc_LL a0 = some r) :
  CallsH Tryz.prog 23 ([ooV w0, .func (.func 24) #[] #[]].toArray ++ [].toArray) h0 (fun v h' => ∃ vs', v = .tuple (List.toArray (α := Value) []) ∧ Mod (List.flatMap (fun o : Thing => o.blks) [ooW 38 2 w0 a0]) h0 h' ∧ Sep (List.flatMap (fun o : Thing => o.blks) [ooW 38 2 w0 a0]) h0.size h' [ooW 38 2 ⟨w0.v, vs'⟩ r]) := by
 unfold slices_SortFunc_LL at hp
 split at hp
 case isFalse => cases hp
 rename_i hc
 obtain ⟨hlen, hnd, hle⟩ := hc
 cases hp
 have H : (ooO 38 2 w0.v w0.vs a0).holds h0 := S0.holds _ (List.mem_singleton.2 rfl)
 obtain ⟨⟨xs, ⟨hxl, hcase⟩, hrel⟩, ⟨hl, hinn⟩, hap⟩ := H
 have hx := relV hrel
 subst hx
 obtain ⟨v, vs⟩ := w0
 simp only at *
 intro w hw
 subst hw
 by_cases hN : a0 = []
 ·subst hN
  have hv0 : vs.length = 0 := hl
  have e : ∃ p cap, v = .slice p 0 cap := by
   rcases hcase with ⟨rfl, _⟩ | ⟨g, cap, cur, rfl, _⟩
   ·exact ⟨none, 0, rfl⟩
   ·rw [hv0]; exact ⟨_, _, rfl⟩
  obtain ⟨p, cap, rfl⟩ := e
  have := Tryz.slices_SortFunc_none (α := Nat) p cap (.func (.func 24) #[] #[]) w
  refine this.mono ?_
  rintro e w' ⟨rfl, rfl⟩
  exact ⟨_, rfl, Same.refl _, vs, rfl, Mod.refl _ _, by rw [List.mergeSort_nil]; exact S0⟩
 ·rcases hcase with ⟨_, h0'⟩ | ⟨g, cap, cur, rfl, _, hg, c1, c2, c3, c4⟩
  ·exact absurd (List.eq_nil_of_length_eq_zero (by omega)) hN
  ·have hpos : 0 < vs.length := by
    rw [hl]
    exact List.length_pos_iff.2 hN
   haveI : Inhabited (Fin vs.length) := ⟨⟨0, hpos⟩⟩
   let enc : Fin vs.length → Value := fun i => vs[i.1]
   let ls : Fin vs.length → List Int := fun i => a0[i.1]'(by have := i.2; omega)
   let cf : Fin vs.length → Fin vs.length → Int := fun i j => lexC (ls i) (ls j)
   have hlt : g < w.heap.size := (Array.getElem?_eq_some_iff.1 hg).1
   have hone : OneCell enc := fun i => RelL.one hrel _ (List.getElem_mem i.2)
   have own : ∀ i : Fin vs.length, Own (kI .i64) 2 0 w.heap (enc i) (ls i) := fun i => hinn i.1 _ _ (List.getElem?_eq_getElem i.2) (List.getElem?_eq_getElem (by have := i.2; omega))
   have far : ∀ (i : Fin vs.length) (b : Nat), (enc i).ownBlock = some b → b ≠ g := fun i b e hb => by
    subst hb
    exact apb_cons (v := .slice (some ⟨b, 0, none⟩) vs.length cap) hap (List.getElem_mem i.2) rfl e
   have inW : ∀ (n : Nat) (os : Array Obj) (dk : Array (Fin vs.length)) (i : Fin vs.length), Own (kI .i64) 2 0 (sortWorld enc w g 0 n dk os).heap (enc i) (ls i) := fun n os dk i => by
    have M := mod_put (w := w) (g := g) (n := n) (os := os) enc dk
    exact (own i).same M.size fun b e => M.same b ((own i).bounds b e).2 (by simpa using far i b e)
   have eg : ∀ args w, (callFunc 24 args).run Tryz.prog w = .ok (.enter 24 args) w := fun args w => by
    have hn : ¬ (Tryz.f24.name = "runtime.NumGoroutine") := by decide
    have hb : ∃ b, Tryz.f24.body = some b := ⟨_, rfl⟩
    obtain ⟨b, hb⟩ := hb
    simp [callFunc, Tryz.func24, hn, hb]
   let d : Array (Fin vs.length) := (List.finRange vs.length).toArray
   have hd : d.size = vs.length := by simp [d]
   have hcmp : CmpLays1 Tryz.prog 24 #[] enc cf g 0 d.size w := by
    intro m os dk _ x y
    have hlx : (ls x).length ≤ 1000000000 := hle _ (List.getElem_mem _)
    have := HD.slices_Compare_int64_int64_ok (sortWorld enc w g 0 m dk os).heap (enc x) (ls x) (Own.read (inW m os dk x) (Nat.le_refl _)) (enc y) (ls y) (Own.read (inW m os dk y) (Nat.le_refl _)) _ (compare_eq _ _ hlx) (sortWorld enc w g 0 m dk os) rfl
    refine this.mono ?_
    rintro e w' ⟨v, rfl, hs, rfl, hh⟩
    obtain ⟨q, hq⟩ := world_drew hs hh.symm
    exact ⟨rfl, q, #[], hq⟩
   have hH : Holds enc w g 0 d := by
    intro j hj
    have hjv : j < vs.length := by rw [← hd]; exact hj
    have hcv : cur[j]? = some (vs[j]) := by
     have e1 : (cur.toList.take (vs.length * kV.size))[j]? = vs[j]? := by rw [c4]
     rw [List.getElem?_take_of_lt (by show j < vs.length * 1; omega), List.getElem?_eq_getElem hjv] at e1
     simpa using e1
    have hdj : d[j]! = ⟨j, hjv⟩ := by
     rw [getElem!_pos d j hj]
     simp [d]
    rw [hdj]
    have hg' : w.heap[g]? = some (.cells cur 38 (0, 0)) := hg
    refine ⟨?_, ?_⟩
    ·simp [World.cell?, hg', hcv, enc]
    ·simp [World.frozen?, hg']
   have hT : ∀ x y, (ltOf cf) x y = false → (ltOf cf) y x = false → x = y := by
    intro x y h k
    unfold ltOf at h k
    have h1 : ¬ lexC (ls x) (ls y) < 0 := by simpa [cf] using h
    have h2 : ¬ lexC (ls y) (ls x) < 0 := by simpa [cf] using k
    rw [lexC_anti (ls x) (ls y)] at h2
    have h3 := lexC_eq _ _ (show lexC (ls x) (ls y) = 0 by omega)
    refine Fin.ext ?_
    have hpw := List.pairwise_iff_getElem.1 hnd
    refine Classical.byContradiction fun hne => ?_
    rcases Nat.lt_or_gt_of_ne hne with hlt' | hlt'
    ·exact hpw x.1 y.1 _ _ hlt' h3
    ·exact hpw y.1 x.1 _ _ hlt' h3.symm
   have T := Tryz.slices_SortFunc_total enc hone cf (swo_lex ls) 24 #[] g 0 cap d w eg hcmp hH hlt (by rw [hd]; omega) hT
   rw [hd] at T
   refine T.mono ?_
   rintro e w' ⟨rfl, n, os, rfl⟩
   generalize hS : (d.toList.mergeSort fun x y => !(ltOf cf) y x) = S
   have hperm : S.Perm (List.finRange vs.length) := by rw [← hS]; simpa [d] using List.mergeSort_perm _ _
   have hSl : S.length = vs.length := by rw [hperm.length_eq]; simp
   have hmap : S.map ls = a0.mergeSort lexLe := by
    have el : (fun x y => !(ltOf cf) y x) = fun a b => lexLe (ls a) (ls b) := rfl
    rw [← hS, el, List.map_mergeSort (s := lexLe) (fun a _ b _ => rfl)]
    congr 1
    refine List.ext_getElem (by simp [d, hl]) fun i h1 h2 => ?_
    simp [d, ls]
   have hvs : (List.finRange vs.length).map enc = vs := by
    refine List.ext_getElem (by simp) fun i h1 h2 => ?_
    simp [enc]
   have hM := mod_put (w := w) (g := g) (n := n) (os := os) enc S.toArray
   have hput := heap_put (n := n) (os := os) enc S.toArray hg
   have hpv : (S.map enc).Perm vs := by
    have := hperm.map enc
    rwa [hvs] at this
   refine ⟨_, rfl, same_put _ _, S.map enc, rfl, ?_, ?_⟩
   ·refine ⟨hM.size, fun b hb hne => hM.same b hb fun hm => hne ?_⟩
    have : b = g := by simpa using hm
    subst this
    simp [ooO, Value.ownBlock]
   ·have hml : (S.map enc).length = vs.length := by rw [List.length_map, hSl]
    have hsz : S.length ≤ cur.size := by
     have e1 : kV.size = 1 := rfl
     rw [c3, e1]; omega
    have hown : Own kV 38 0 (sortWorld enc w g 0 n S.toArray os).heap (.slice (some ⟨g, 0, none⟩) vs.length cap) (S.map enc) := by
     refine ⟨S.map enc, ⟨(Nat.mul_one _).symm, .inr ⟨g, cap, _, by rw [hml], Nat.zero_le _, hput, by rw [hml]; exact c1, c2, ?_, ?_⟩⟩, relV_mk _ fun u hu => ?_⟩
     ·simp only [putCells, Array.size_mapIdx]; exact c3
     ·have hm1 : (S.map enc).length * kV.size = S.length := by rw [List.length_map]; exact Nat.mul_one _
      rw [hm1, take_put enc cur S _ (Nat.le_refl _) hsz, List.take_length]
     ·obtain ⟨k, _, rfl⟩ := List.mem_map.1 hu
      exact hone k
    have hpb := hpv.map Value.ownBlock
    have hap' : ApB ((Value.slice (some ⟨g, 0, none⟩) vs.length cap).ownBlock :: (S.map enc).map Value.ownBlock) :=
     (List.Perm.pairwise_iff (fun {x y} h b e1 e2 => h b e2 e1) (List.Perm.cons _ hpb)).2 hap
    refine Sep.one' ⟨hown, ⟨by rw [← hmap, List.length_map, List.length_map], fun i u l hu hl' => ?_⟩, hap'⟩ fun b hb => ?_
    ·rw [← hmap] at hl'
     rw [List.getElem?_map] at hu hl'
     obtain ⟨k, hk, rfl⟩ := Option.map_eq_some_iff.1 hu
     rw [hk] at hl'
     cases hl'
     exact inW n os _ k
    ·have hb' : some b ∈ (ooW 38 2 ⟨.slice (some ⟨g, 0, none⟩) vs.length cap, vs⟩ a0).blks := (List.Perm.cons _ hpb).mem_iff.1 hb
     have := S0.blk _ (List.mem_singleton.2 rfl) b hb'
     exact ⟨Nat.lt_of_lt_of_le this.1 hM.size, .inr (List.mem_flatMap.2 ⟨_, List.mem_singleton.2 rfl, hb'⟩)⟩
end Go.H
