/- Messages between strips and their check numbers: the plain law. -/
import Derived.Test.YtjlnfficehomhaaGreatDoorGMessages
import Derived.Test.YtjlnfficehomhaaGreatDoorPMsgI
import Derived.Test.YtjlnfficehomhaaGreatDoorPChkI
import Derived.Test.YtjlnfficehomhaaGreatDoorPDrawS
set_option linter.unusedVariables false
namespace Go.H
open Go Ieee

theorem b10At_ok {a : List Int} (hb : ∀ x ∈ a, 0 ≤ x ∧ x ≤ 255) (i n : Int) (h0 : 0 ≤ i) (h1 : i ≤ 1000) : ∃ r, laws_b10At a i n = some r ∧ 0 ≤ r ∧ (r < n ∨ r = 0) := by
  unfold laws_b10At
  by_cases hn : n ≤ 1
  · rw [if_pos (by simpa using hn)]
    exact ⟨0, rfl, by omega, .inr rfl⟩
  · rw [if_neg (by simpa using hn)]
    by_cases hi : i < (a.length : Int)
    · rw [if_pos (by simpa using hi)]
      obtain ⟨k, rfl⟩ := Int.eq_ofNat_of_zero_le h0
      have hk : k < a.length := by omega
      have hx := hb a[k] (List.getElem_mem hk)
      rw [idx_nat, List.getElem?_eq_getElem hk, some_bind', if_neg (by omega), wrap_small (n := a[k]) (by omega) (by omega)]
      exact ⟨_, rfl, Int.tmod_nonneg _ (by omega), .inl (Int.tmod_lt_of_pos _ (by omega))⟩
    · rw [if_neg (by simpa using hi), if_neg (by omega), wrap_small (n := i * 37) (by omega) (by omega), wrap_small (n := i * 37 + 11) (by omega) (by omega)]
      exact ⟨_, rfl, Int.tmod_nonneg _ (by omega), .inl (Int.tmod_lt_of_pos _ (by omega))⟩

/-! ### the messages of small sheets, one by one -/
def msgsOf (h n : Nat) (b : Bool) : List (List Int) := msgS (stripsL h n).length (halB h b (stripsL h n)) (inA (stripsL h n))
/-- rows that are needed and not had -/
def needStep (h n : Nat) (b : Bool) (k : Nat) (t : Int) : Int := IntKind.wrap .i64 (t + IntKind.wrap .i64 (((halB h b (stripsL h n) k).length : Int) - (((stripsL h n)[k]?).getD (0, 0)).2))
noncomputable def msgsFit (h n : Nat) (b : Bool) : Bool := decide (1 ≤ (stripsL h n).length) && (decide (((msgsOf h n b).length : Int) = foldN (needStep h n b) (stripsL h n).length 0) &&
  (List.range (msgsOf h n b).length).all fun i => decide (laws_FnMessages.s2 (stripsL h n, true) (msgsOf h n b, true) false (i : Int) = some (.inl (false, ((i + 1 : Nat) : Int)))))
theorem msgs_fit : ∀ h : Nat, h < 7 → ∀ n : Nat, n < 9 → ∀ b : Bool, (decide (h < 3) || (decide (n < 1) || msgsFit h n b)) = true := by decide +kernel

theorem strips_some (w h : Nat) (b : Bool) (l m : List (Option Nat)) (n : Nat) (hv : impl_ValidSheet w h b l m = some true) (h1 : 1 ≤ n) (h2 : n ≤ 8) : impl_StripsOf w h b l m n = some (stripsL h n, true) := by
  unfold impl_StripsOf impl_areWorkers impl_within
  have c : (decide ((n : Int) ≥ 1) && decide ((n : Int) ≤ 8)) = true := by simp; omega
  simp only [hv, some_bind', ite_andB, c, Bool.not_true, strips_is (w : Int) (h : Int) b l m n h1 h2]
  rfl

theorem messages_some (w h : Nat) (b : Bool) (l m : List (Option Nat)) (n : Nat) (hv : impl_ValidSheet w h b l m = some true) (k1 : 1 ≤ h) (k2 : h ≤ 16) (h1 : 1 ≤ n) (h2 : n ≤ 8) : impl_MessagesOf w h b l m n = some (msgsOf h n b, true) := by
  have hgood := strips_good h (by omega) n (by omega)
  rw [Bool.and_eq_true, List.all_eq_true, decide_eq_true_eq] at hgood
  unfold impl_MessagesOf
  obtain ⟨i1, i2⟩ := impl_all w h b l m (stripsL h n) true k1 k2 hgood.2 hgood.1
  simp only [strips_some w h b l m n hv h1 h2, some_bind', Bool.not_true, Bool.false_eq_true, if_false, i1]
  have hH : ∀ k, (halB h b (stripsL h n) k).Pairwise (· < ·) := fun k => halB_rise h b (stripsL h n) k
  have hms : (msgI (stripsL h n).length (halB h b (stripsL h n)) (inA (stripsL h n))).mergeSort lexLe = msgsOf h n b := msg_sort hH
  have hlen : (msgI (stripsL h n).length (halB h b (stripsL h n)) (inA (stripsL h n))).length ≤ 1000000000 := by omega
  have hso : slices_SortFunc_LL (msgI (stripsL h n).length (halB h b (stripsL h n)) (inA (stripsL h n))) = some (msgsOf h n b) := by
    unfold slices_SortFunc_LL
    rw [if_pos ⟨hlen, msgI_nodup hH, fun x hx => by
      obtain ⟨a, c, r, _, _, _, _, rfl⟩ := mem_msgI.1 hx
      simp⟩, hms]
  rw [hso]
  rfl

theorem checks_some (w h : Nat) (b : Bool) (l m e x y : List (Option Nat)) (n : Nat) (hf : impl_IsField w h b l m e x y = some true) (w1 : 3 ≤ w) (w2 : w ≤ 16) (k2 : h ≤ 16) (le : e.length = w * h) (hb : ∀ z ∈ e, ∀ b, z = some b → b < 4294967296) (h1 : 1 ≤ n) (h2 : n ≤ 8) : impl_StripChecks w h b l m e x y n = some ((stripsL h n).map (checkT w e), true) := by
  have hgood := strips_good h (by omega) n (by omega)
  rw [Bool.and_eq_true, List.all_eq_true, decide_eq_true_eq] at hgood
  unfold impl_StripChecks impl_areWorkers impl_within
  have c : (decide ((n : Int) ≥ 1) && decide ((n : Int) ≤ 8)) = true := by simp; omega
  simp only [hf, some_bind', ite_andB, c, Bool.not_true, strips_is (w : Int) (h : Int) b l m n h1 h2, checks_impl w h e w1 w2 k2 le hb _ hgood.2 hgood.1]
  rfl

theorem halo_some (w h : Nat) (b : Bool) (l m : List (Option Nat)) (hv : impl_ValidSheet w h b l m = some true) (k1 : 1 ≤ h) (k2 : h ≤ 16) (fr ct : Nat) (g1 : fr < h) (g2 : 1 ≤ ct) (g3 : ct ≤ h - fr) : impl_HaloRows w h b l m fr ct = some (hal h b ((fr : Int), (ct : Int)), true) := by
  unfold impl_HaloRows impl_IsStrip impl_within
  have c1 : (decide ((fr : Int) ≥ 0) && decide ((fr : Int) ≤ IntKind.wrap .i64 ((h : Int) - 1))) = true := by
    rw [wrap_small (by omega) (by omega)]; simp; omega
  have c2 : (decide ((ct : Int) ≥ 1) && decide ((ct : Int) ≤ IntKind.wrap .i64 ((h : Int) - (fr : Int)))) = true := by
    rw [wrap_small (by omega) (by omega)]; simp; omega
  simp only [hv, some_bind', ite_andB, c1, c2, impl_halo b l m fr ct k1 k2 g1 g2 g3]
  rfl

theorem rowOf_some (w h : Nat) (b : Bool) (l m e x y : List (Option Nat)) (hf : impl_IsField w h b l m e x y = some true) (w2 : w ≤ 16) (k2 : h ≤ 16) (le : e.length = w * h) (q : Nat) (hq : q < h) : impl_RowOf w h b l m e x y q = some (rowE w e q, true) := by
  unfold impl_RowOf impl_within
  have c1 : (decide ((q : Int) ≥ 0) && decide ((q : Int) ≤ IntKind.wrap .i64 ((h : Int) - 1))) = true := by
    rw [wrap_small (by omega) (by omega)]; simp; omega
  have hs := row_sub w h e w2 k2 le q hq
  rw [Int.mul_comm, Int.mul_comm (w : Int) (IntKind.wrap .i64 ((q : Int) + 1))] at hs
  have hl : (rowE w e q).length ≤ 1000000000 := by
    unfold rowE
    rw [List.length_take]
    omega
  simp only [hf, some_bind', ite_andB, c1, Bool.not_true, hs, copyOf_eq hl]
  rfl

theorem checkOf_some (s : List UInt8) (n : Int) (h0 : 0 ≤ n) (h1 : n ≤ 65002) (hs : s.length ≤ 1000000) : spec_CheckOf n (mkB s) = some (chk n s, true) := by
  unfold spec_CheckOf
  have c : (decide (n ≥ 0) && decide (n ≤ 65002)) = true := by simp; omega
  simp only [(in_eq _ _ _).1, some_bind', c, Bool.not_true, Bool.false_eq_true, if_false, check_spec s n h0 h1 hs]

theorem strip_law (w h : Nat) (b : Bool) (l m e x y : List (Option Nat)) (hf : impl_IsField w h b l m e x y = some true) (w1 : 3 ≤ w) (w2 : w ≤ 16) (k2 : h ≤ 16) (le : e.length = w * h) (hb : ∀ z ∈ e, ∀ b, z = some b → b < 4294967296) (L : List (Int × Int)) (a fr ct : Nat) (hp : L[a]? = some ((fr : Int), (ct : Int))) (hfr : fr + ct ≤ h) (q : Bool) :
    loopF (fun (s : (Bool × Int × Int)) => laws_FnMessages.s1 ((w : Int), (h : Int), b, l, m) (e, x, y) (L, true) (a : Int) s.1 s.2.1 s.2.2) (q, 0, (fr : Int)) = some (.inl (q, chk 0 (catT w e fr ct), ((fr + ct : Nat) : Int), false)) := by
  have e1 : IntKind.wrap .i64 ((fr : Int) + (ct : Int)) = ((fr + ct : Nat) : Int) := by rw [wrap_small (by omega) (by omega)]; simp
  have A := loopF_upto (step := fun (s : (Bool × Int × Int)) => laws_FnMessages.s1 ((w : Int), (h : Int), b, l, m) (e, x, y) (L, true) (a : Int) s.1 s.2.1 s.2.2) (fun k => (q, chk 0 (catT w e fr k), ((fr + k : Nat) : Int))) ct (fun k hk => by
    show laws_FnMessages.s1 ((w : Int), (h : Int), b, l, m) (e, x, y) (L, true) (a : Int) q (chk 0 (catT w e fr k)) ((fr + k : Nat) : Int) = _
    have hr := chk_range (catT w e fr k) 0 (by omega) (by omega)
    have ht := rowT_eq w h e w1 w2 le hb (fr + k) (by omega)
    unfold laws_FnMessages.s1
    simp only [idx_nat, hp, some_bind', e1]
    rw [if_pos (decide_eq_true (by omega)), rowOf_some w h b l m e x y hf w2 k2 le (fr + k) (by omega)]
    simp only [some_bind', ht.2, checkOf_some _ _ hr.1 hr.2 (show (rowT w e (fr + k)).length ≤ 1000000 by omega), Bool.not_true, Bool.false_eq_true, if_false]
    rw [← chk_append, ← catT_succ, one_more (by omega)]
    rfl)
  have A' : loopF (fun (s : (Bool × Int × Int)) => laws_FnMessages.s1 ((w : Int), (h : Int), b, l, m) (e, x, y) (L, true) (a : Int) s.1 s.2.1 s.2.2) (q, 0, (fr : Int)) = _ := A
  rw [A']
  apply loopF_stop
  show laws_FnMessages.s1 ((w : Int), (h : Int), b, l, m) (e, x, y) (L, true) (a : Int) q (chk 0 (catT w e fr ct)) ((fr + ct : Nat) : Int) = _
  unfold laws_FnMessages.s1
  simp only [idx_nat, hp, some_bind', e1]
  rw [if_neg (by simp)]
  simp

theorem laws_FnMessages_true (a0 a1 : List Int) (h0 : ∀ x ∈ a0, 0 ≤ x ∧ x ≤ 255) (h1 : ∀ x ∈ a1, 0 ≤ x ∧ x ≤ 255) : laws_FnMessages a0 a1 = some true := by
  unfold laws_FnMessages laws_b10Long
  simp only [some_bind', ite_orB]
  cases (decide ((a0.length : Int) > 1048576) || decide ((a1.length : Int) > 1048576)) with
  | true => rfl
  | false =>
    obtain ⟨w, h, b, l, m, e1, w1, w2, k1, k2, ll, lm, hl, hm⟩ := sheet_draw h0
    have hv := draw_valid (b := b) w1 (by omega) k1 (by omega) ll lm hl hm
    obtain ⟨e, x, y, e2, le, lx, ly, hf⟩ := field_draw h1 hv w1 (by omega) k1 (by omega) ll lm
    have hb : ∀ z ∈ e, ∀ b, z = some b → b < 4294967296 := field_sm e2
    obtain ⟨r, e3, r0, r1⟩ := b10At_ok h1 0 8 (by omega) (by omega)
    obtain ⟨q, rfl⟩ := Int.eq_ofNat_of_zero_le r0
    have hs : IntKind.wrap .i64 (1 + (q : Int)) = ((1 + q : Nat) : Int) := by rw [wrap_small (by omega) (by omega)]; rfl
    have n1 : 1 ≤ 1 + q := by omega
    have n2 : 1 + q ≤ 8 := by omega
    generalize hn : 1 + q = n at *
    have hgood := strips_good h (by omega) n (by omega)
    rw [Bool.and_eq_true, List.all_eq_true, decide_eq_true_eq] at hgood
    have fit := msgs_fit h (by omega) n (by omega) b
    rw [decide_eq_false (by omega : ¬ h < 3), decide_eq_false (by omega : ¬ n < 1), Bool.false_or, Bool.false_or] at fit
    unfold msgsFit at fit
    rw [Bool.and_eq_true, Bool.and_eq_true, decide_eq_true_eq, decide_eq_true_eq, List.all_eq_true] at fit
    obtain ⟨f1, f2, f3⟩ := fit
    simp only [Bool.false_eq_true, if_false, e1, e2, e3, hs, some_bind', strips_some w h b l m n hv n1 n2, messages_some w h b l m n hv (by omega) (by omega) n1 n2, checks_some w h b l m e x y n hf w1 (by omega) (by omega) le hb n1 n2, Bool.not_true, List.length_map, bne_self_eq_false]
    have c8 : (((stripsL h n).length : Int) == 0) = false := by
      rw [beq_eq_false_iff_ne]; omega
    simp only [c8]
    generalize hLs : stripsL (h : Int) n = L at *
    have A := loopF_upto (step := fun (s : (Bool × Int × Int)) => laws_FnMessages.s0 ((w : Int), (h : Int), b, l, m) (e, x, y) (L, true) (L.map (checkT w e), true) s.1 s.2.1 s.2.2) (fun k => (false, foldN (needStep h n b) k 0, (k : Int))) L.length (fun k hk => by
      show laws_FnMessages.s0 ((w : Int), (h : Int), b, l, m) (e, x, y) (L, true) (L.map (checkT w e), true) false (foldN (needStep h n b) k 0) (k : Int) = _
      have hp : L[k]? = some L[k] := List.getElem?_eq_getElem hk
      obtain ⟨fr, ct, ee, g1, g2, g3⟩ := good_has (hgood.1 L[k] (List.getElem_mem hk))
      have hst : needStep h n b k (foldN (needStep h n b) k 0) = IntKind.wrap .i64 (foldN (needStep h n b) k 0 + IntKind.wrap .i64 (((hal h b ((fr : Int), (ct : Int))).length : Int) - (ct : Int))) := by
        unfold needStep
        rw [hLs]
        unfold halB
        rw [hp, ee]
        rfl
      have hck : (L.map (checkT w e))[k]? = some (chk 0 (catT w e fr ct)) := by
        rw [List.getElem?_map, hp, ee]; rfl
      rw [ee] at hp
      unfold laws_FnMessages.s0
      rw [if_pos (decide_eq_true (Int.ofNat_lt.2 hk))]
      simp only [idx_nat, hp, some_bind', halo_some w h b l m hv (show 1 ≤ h by omega) (show h ≤ 16 by omega) fr ct g1 g2 g3, Bool.not_true, Bool.false_eq_true, if_false, strip_law w h b l m e x y hf w1 (show w ≤ 16 by omega) (show h ≤ 16 by omega) le hb L k fr ct hp (show fr + ct ≤ h by omega) false, hck, bne_self_eq_false]
      rw [one_more (by omega), ← hst]
      rfl)
    have A' : loopF (fun (s : (Bool × Int × Int)) => laws_FnMessages.s0 ((w : Int), (h : Int), b, l, m) (e, x, y) (L, true) (L.map (checkT w e), true) s.1 s.2.1 s.2.2) (false, 0, 0) = _ := A
    have As : loopF (fun (s : (Bool × Int × Int)) => laws_FnMessages.s0 ((w : Int), (h : Int), b, l, m) (e, x, y) (L, true) (L.map (checkT w e), true) s.1 s.2.1 s.2.2) (false, foldN (needStep h n b) L.length 0, (L.length : Int)) = some (.inl (false, foldN (needStep h n b) L.length 0, (L.length : Int), false)) := by
      apply loopF_stop
      show laws_FnMessages.s0 ((w : Int), (h : Int), b, l, m) (e, x, y) (L, true) (L.map (checkT w e), true) false (foldN (needStep h n b) L.length 0) (L.length : Int) = _
      unfold laws_FnMessages.s0
      rw [if_neg (by simp)]
      simp
    rw [A', As]
    simp only [some_bind']
    have B := loopF_upto (step := fun (s : (Bool × Int)) => laws_FnMessages.s2 (L, true) (msgsOf h n b, true) s.1 s.2) (fun k => (false, (k : Int))) (msgsOf h n b).length (fun k hk => of_decide_eq_true (f3 k (List.mem_range.2 hk)))
    have B' : loopF (fun (s : (Bool × Int)) => laws_FnMessages.s2 (L, true) (msgsOf h n b, true) s.1 s.2) (false, 0) = _ := B
    have Bs : loopF (fun (s : (Bool × Int)) => laws_FnMessages.s2 (L, true) (msgsOf h n b, true) s.1 s.2) (false, ((msgsOf h n b).length : Int)) = some (.inl (false, ((msgsOf h n b).length : Int), false)) := by
      apply loopF_stop
      show laws_FnMessages.s2 (L, true) (msgsOf h n b, true) false ((msgsOf h n b).length : Int) = _
      unfold laws_FnMessages.s2
      rw [if_neg (by simp)]
      simp
    rw [B', Bs]
    simp only [some_bind', f2, beq_self_eq_true]
    rfl
end Go.H
