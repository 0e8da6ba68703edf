/- Strings. -/
import Derived.Test.YtjlnfficehomhaaDoorBase27
import Derived.Laws.IdiomStrings
set_option linter.unusedVariables false
namespace Go.H
open Go

/-- elements that are strings -/
def kS : Kd ByteArray where
  size := 1
  rel s us := us = [.string s]
  len := by rintro _ _ rfl; rfl
  one := by rintro _ _ rfl u hu; simp at hu; subst hu; rfl
  pos := by decide

/-- a byte of a string -/
def sidx (s : ByteArray) (n : Int) : Option Int := if 0 ≤ n then (s.data.toList[n.toNat]?).map fun b => (b.toNat : Int) else none
/-- the string of such bytes -/
def mkS (l : List Int) : ByteArray := ⟨(l.map fun n => UInt8.ofNat n.toNat).toArray⟩

theorem bytes_get (s : ByteArray) (i : Nat) : s[i]? = s.data.toList[i]? := by
  by_cases h : i < s.size
  · rw [getElem?_pos s i h]
    have h2 : i < s.data.toList.length := by simpa using h
    rw [List.getElem?_eq_getElem h2]
    rfl
  · rw [getElem?_neg s i h, List.getElem?_eq_none (by simpa using h)]

theorem foldl_mkS : ∀ (l : List Int) (r : ByteArray), l.foldl (fun r n => r.push (UInt8.ofNat n.toNat)) r = ⟨r.data ++ (l.map fun n => UInt8.ofNat n.toNat).toArray⟩
  | [], r => by simp
  | b :: l, r => by
    simp only [List.foldl_cons]
    rw [foldl_mkS l]
    simp [ByteArray.push]

section
variable {P : Program} {φ : Fr} {h : Heap} {o : Oper} {α : Type} {K : Kd α} {e : Nat} {v : Value} {l : List α}

theorem opv_strAdd {t t' : TypeId} {x y : Operand} {m n : ByteArray} (ho : o.op = .binOp .add t x y t') (hx : φ.ev x = some (.string m)) (hy : φ.ev y = some (.string n)) (hs : m.size + n.size ≤ 1000000000) : OpV P φ o h (Det (.string (m ++ n)) h) := by
  intro a w hev hw
  refine .inl ⟨_, w, ?_, Same.refl w, rfl, hw.symm⟩
  have h1 : ¬ (((m.size + n.size : Nat) : Int) > IntKind.i64.max) := by
    have : IntKind.i64.max = 9223372036854775807 := by decide
    rw [this]; omega
  have h2 : (Op.stringOp .add m n).run P w = .ok (.string (m ++ n)) w := by
    unfold Op.stringOp
    simp only
    rw [if_neg h1]
    rfl
  simp [execOp, ho, hev x _ hx, hev y _ hy, eqGuard, binOp, h2]

theorem opv_indexS {t : TypeId} {x i : Operand} {k : IntKind} {s : ByteArray} {n y : Int} (ho : o.op = .index t x i) (ht : P.underlying t = some .string) (hx : φ.ev x = some (.string s)) (hi : φ.ev i = some (.int k n)) (hn : sidx s n = some y) : OpV P φ o h (Det (.int .u8 y) h) := by
  intro a w hev hw
  refine .inl ⟨_, w, ?_, Same.refl w, rfl, hw.symm⟩
  unfold sidx at hn
  by_cases h0 : 0 ≤ n
  · rw [if_pos h0] at hn
    obtain ⟨b, hb, rfl⟩ := Option.map_eq_some_iff.1 hn
    have hb' : s[n.toNat]? = some b := by rw [bytes_get]; exact hb
    simp [execOp, ho, hev x _ hx, hev i _ hi, Instr.index, asIntOf, run_underlying ht, h0, hb']
  · rw [if_neg h0] at hn; cases hn

theorem opv_loadS {l : List ByteArray} {t : TypeId} {x : Operand} {u : Value} {n : Int} {y : ByteArray} (ho : o.op = .load t x) (ht : oneCellT P t = true) (hx : φ.ev x = some u) (hp : PtI 1 u v n.toNat) (H : SL kS e h v l) (hy : idx l n = some y) : OpV P φ o h (Det (.string y) h) :=
  (opv_loadE (K := kS) ho ht rfl hx hp H (idx_some hy).2.2).mono (by rintro r _ ⟨hw, rfl⟩; change [r] = [.string y] at hw; simp at hw; subst hw; exact ⟨rfl, rfl⟩)

/-- the cells of a row of integers -/
theorem SL.ints {k : IntKind} {l : List Int} (H : SL (kI k) e h v l) : l = [] ∧ (∃ a c, v = .slice a 0 c) ∨ ∃ p c, v = .slice (some p) l.length c ∧ ∀ j (hj : j < l.length), (hw h).cell? (p.add j) = some (.int k l[j]) := by
  obtain ⟨a, c, xs, rfl, hr, hc⟩ := H
  rcases hc with rfl | ⟨p, rfl, hsp, hb, hcell⟩
  · exact .inl ⟨rfl, a, c, rfl⟩
  · refine .inr ⟨p, c, rfl, fun j hj => ?_⟩
    obtain ⟨us, hrel, hus⟩ := hr.2.get (List.getElem?_eq_getElem hj)
    change us = [.int k l[j]] at hrel
    subst hrel
    have := hus 0 _ rfl
    refine hcell j _ ?_
    simpa [kI] using this

theorem opv_b2s {t t' E : TypeId} {x : Operand} {l : List Int} (ho : o.op = .convert t t' x) (ht : P.underlying t = some (.slice E)) (hE : P.underlying E = some (.int .u8)) (hd : P.underlying t' = some .string) (hx : φ.ev x = some v) (H : SL (kI .u8) e h v l) : OpV P φ o h (Det (.string (mkS l)) h) := by
  intro a w hev hw'
  subst hw'
  refine .inl ⟨_, w, ?_, Same.refl w, rfl, rfl⟩
  rcases H.ints with ⟨rfl, p, c, rfl⟩ | ⟨p, c, rfl, hc⟩
  · have h1 : (convert t t' (.slice p 0 c)).run P w = .ok (.string (mkS [])) w := by
      rw [run_convert_bytes_string w t t' E p 0 c ht hE hd]
      cases p with
      | none => rfl
      | some p => exact run_bytesToString w p 0 c [] rfl
    simp [execOp, ho, hev x _ hx, h1]
  · have h1 : (convert t t' (.slice (some p) l.length c)).run P w = .ok (.string (mkS l)) w := by
      rw [run_convert_bytes_string w t t' E (some p) l.length c ht hE hd]
      have hl := run_loadCells_list (P := P) w p (l.map (Value.int .u8)) (fun j v hj => by
        have hj' : j < l.length := by
          have := (List.getElem?_eq_some_iff.1 hj).1
          simpa using this
        rw [cell_hw (h := w.heap) rfl, hc j hj']
        simp [List.getElem?_eq_getElem hj'] at hj
        rw [← hj])
      simp only [List.length_map] at hl
      rw [run_bytesToString w p l.length c _ hl, foldl_mkS]
      have he0 : ByteArray.empty.data = #[] := rfl
      rw [he0]
      simp [mkS]
    simp [execOp, ho, hev x _ hx, h1]
end
end Go.H
