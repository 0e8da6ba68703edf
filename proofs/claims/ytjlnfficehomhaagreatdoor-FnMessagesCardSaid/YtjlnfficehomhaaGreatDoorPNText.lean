/- The text of numbers, and the check number of a text: both texts. -/
import Derived.Test.YtjlnfficehomhaaGreatDoorPHex
set_option linter.unusedVariables false
namespace Go.H
open Go Go.Proofs

def mkB (l : List UInt8) : ByteArray := ⟨l.toArray⟩
theorem mkB_append (a b : List UInt8) : mkB a ++ mkB b = mkB (a ++ b) := by
  apply ByteArray.ext
  rw [ByteArray.data_append]
  simp [mkB]
theorem mkB_size (a : List UInt8) : (mkB a).size = a.length := by
  show (mkB a).data.size = _
  simp [mkB]
theorem mkB_data (s : ByteArray) : mkB s.data.toList = s := by
  apply ByteArray.ext
  simp [mkB]

/-- a number's digits -/
noncomputable def hexL (x : Option Nat) : List UInt8 := ((impl_hexOf x).getD ⟨#[]⟩).data.toList
theorem hexL_eq {x : Option Nat} (hx : ∀ b, x = some b → b < 4294967296) : (hexL x).length = 8 ∧ impl_hexOf x = some (mkB (hexL x)) := by
  obtain ⟨s, hs, e2⟩ := hex_eq x hx
  unfold hexL
  rw [e2, Option.getD_some, mkB_data]
  refine ⟨?_, rfl⟩
  have := mkS_size s
  rw [hs] at this
  exact this

theorem lens_8 : ∀ R : List (List UInt8), (∀ x ∈ R, x.length = 8) → Lib.lens R = 8 * R.length
  | [], _ => rfl
  | x :: R, h => by
    have h1 := lens_8 R (fun y hy => h y (List.mem_cons_of_mem _ hy))
    have h2 := h x List.mem_cons_self
    unfold Lib.lens at h1 ⊢
    rw [List.map_cons, List.sum_cons, h1, h2, List.length_cons]
    omega

theorem tail_8 (R : List (List UInt8)) (h : ∀ x ∈ R, x.length = 8) : (Lib.joinTail [44] R).length = 9 * R.length := by
  rw [Lib.joinTail_length, lens_8 R h]
  simp
  omega

theorem ntext_eq (R : List (Option Nat)) (h1 : 1 ≤ R.length) (h2 : R.length ≤ 256) (hR : ∀ x ∈ R, ∀ b, x = some b → b < 4294967296) : ∃ s : List UInt8, s.length ≤ 9 * R.length ∧ impl_NumbersText R = some (mkB s, true) := by
  obtain ⟨x, r, rfl⟩ : ∃ x r, R = x :: r := by
    cases R with
    | nil => simp at h1
    | cons x r => exact ⟨x, r, rfl⟩
  have h8 : ∀ y ∈ (r.map hexL), y.length = 8 := fun y hy => by
    obtain ⟨z, hz, rfl⟩ := List.mem_map.1 hy
    exact (hexL_eq (hR z (List.mem_cons_of_mem _ hz))).1
  have hx := hexL_eq (hR x List.mem_cons_self)
  have hjoin : Lib.join ((x :: r).map hexL) [44] = hexL x ++ Lib.joinTail [44] (r.map hexL) := by rw [List.map_cons, Lib.join_cons]
  have hjl : (hexL x ++ Lib.joinTail [44] (r.map hexL)).length = 8 + 9 * r.length := by
    rw [List.length_append, hx.1, tail_8 _ h8, List.length_map]
  simp only [List.length_cons] at h1 h2
  refine ⟨hexL x ++ Lib.joinTail [44] (r.map hexL), by rw [hjl, List.length_cons]; omega, ?_⟩
  · -- the program
    unfold impl_NumbersText
    rw [if_neg (by simp; omega)]
    have A := loopF_upto (step := fun (s : ((List (ByteArray)) × Int)) => impl_NumbersText.s0 (x :: r) s.1 s.2) (fun k => (((x :: r).take k).map fun z => mkB (hexL z), (k : Int))) (r.length + 1) (fun k hk => by
      show impl_NumbersText.s0 (x :: r) (((x :: r).take k).map fun z => mkB (hexL z)) (k : Int) = _
      unfold impl_NumbersText.s0
      have hk' : k < (x :: r).length := by simpa using hk
      have hrk : (x :: r)[k]? = some (x :: r)[k] := List.getElem?_eq_getElem hk'
      have hk8 := hexL_eq (hR (x :: r)[k] (List.getElem_mem hk'))
      rw [if_pos (decide_eq_true (Int.ofNat_lt.2 hk')), idx_nat, hrk, Option.bind_some, hk8.2, Option.bind_some, if_pos (by rw [List.length_map, List.length_take]; simp; omega), one_more (by omega), List.take_succ_eq_append_getElem hk', List.map_append]
      rfl)
    have A' : loopF (fun (s : ((List (ByteArray)) × Int)) => impl_NumbersText.s0 (x :: r) s.1 s.2) (([] : List (ByteArray)), 0) = _ := A
    have hs : loopF (fun (s : ((List (ByteArray)) × Int)) => impl_NumbersText.s0 (x :: r) s.1 s.2) (((x :: r).take (r.length + 1)).map (fun z => mkB (hexL z)), ((r.length + 1 : Nat) : Int)) = some (((r.length + 1 : Nat) : Int), false, (x :: r).map fun z => mkB (hexL z)) := by
      apply loopF_stop
      show impl_NumbersText.s0 (x :: r) (((x :: r).take (r.length + 1)).map (fun z => mkB (hexL z))) ((r.length + 1 : Nat) : Int) = _
      unfold impl_NumbersText.s0
      have : decide (((r.length + 1 : Nat) : Int) < ((x :: r).length : Int)) = false := by simp
      rw [this, if_neg (by simp), show r.length + 1 = (x :: r).length from rfl, List.take_length]
    rw [A', hs, Option.bind_some]
    simp only
    unfold impl_joined strings_Join
    have hm : ((x :: r).map fun z => mkB (hexL z)).map (·.data.toList) = (x :: r).map hexL := by
      rw [List.map_map]
      apply List.map_congr_left
      intro z _
      simp [mkB]
    have h44 : (⟨#[44]⟩ : ByteArray).data.toList = [44] := rfl
    rw [if_neg (by simp; omega), hm, h44, hjoin, if_pos ⟨by rw [List.length_map, List.length_cons]; omega, by rw [hjl]; omega⟩]
    rfl

/-! ### the check number -/
def chk (n : Int) (s : List UInt8) : Int := s.foldl (fun n b => Int.tmod (677 * n + (b.toNat : Int) + 31) 65003) n
theorem chk_append (n : Int) (a b : List UInt8) : chk n (a ++ b) = chk (chk n a) b := List.foldl_append
theorem chk_range (s : List UInt8) : ∀ n : Int, 0 ≤ n → n ≤ 65002 → 0 ≤ chk n s ∧ chk n s ≤ 65002 := by
  induction s with
  | nil => intro n h0 h1; exact ⟨h0, h1⟩
  | cons b s ih =>
    intro n h0 h1
    have h : 0 ≤ Int.tmod (677 * n + (b.toNat : Int) + 31) 65003 ∧ Int.tmod (677 * n + (b.toNat : Int) + 31) 65003 ≤ 65002 := by
      rw [Int.tmod_eq_emod_of_nonneg (by omega)]
      omega
    exact ih _ h.1 h.2

theorem sidx_mkB (s : List UInt8) (k : Nat) (hk : k < s.length) : sidx (mkB s) (k : Int) = some (s[k].toNat : Int) := by
  unfold sidx
  rw [if_pos (by omega), Int.toNat_natCast]
  have : (mkB s).data.toList = s := by simp [mkB]
  rw [this, List.getElem?_eq_getElem hk]
  rfl

theorem chk_step (s : List UInt8) (n : Int) (h0 : 0 ≤ n) (h1 : n ≤ 65002) (k : Nat) (hk : k < s.length) : Int.tmod (IntKind.wrap .i64 ((IntKind.wrap .i64 ((IntKind.wrap .i64 (677 * chk n (s.take k))) + (IntKind.wrap .i64 (s[k].toNat : Int)))) + 31)) 65003 = chk n (s.take (k + 1)) := by
  have hr := chk_range (s.take k) n h0 h1
  have hb : s[k].toNat < 256 := s[k].toNat_lt
  rw [List.take_succ_eq_append_getElem hk, chk_append]
  generalize chk n (s.take k) = c at hr
  generalize hq : s[k] = b at hb
  rw [wrap_small (n := 677 * c) (by omega) (by omega), wrap_small (n := (b.toNat : Int)) (by omega) (by omega), wrap_small (n := 677 * c + (b.toNat : Int)) (by omega) (by omega), wrap_small (n := 677 * c + (b.toNat : Int) + 31) (by omega) (by omega)]
  rfl

theorem check_spec (s : List UInt8) (n : Int) (h0 : 0 ≤ n) (h1 : n ≤ 65002) (hs : s.length ≤ 1000000) : spec_l01Check n (mkB s) = some (chk n s) := by
  unfold spec_l01Check
  have A := loopF_upto (step := fun (t : (Int × Int)) => spec_l01Check.s0 (mkB s) t.1 t.2) (fun k => (chk n (s.take k), (k : Int))) s.length (fun k hk => by
    show spec_l01Check.s0 (mkB s) (chk n (s.take k)) (k : Int) = _
    unfold spec_l01Check.s0
    rw [if_pos (decide_eq_true (by rw [mkB_size]; omega)), sidx_mkB s k hk, Option.bind_some, chk_step s n h0 h1 k hk, one_more (by omega)])
  have A' : loopF (fun (t : (Int × Int)) => spec_l01Check.s0 (mkB s) t.1 t.2) (n, 0) = _ := A
  have hst : loopF (fun (t : (Int × Int)) => spec_l01Check.s0 (mkB s) t.1 t.2) (chk n (s.take s.length), (s.length : Int)) = some (chk n s, (s.length : Int), false) := by
    apply loopF_stop
    show spec_l01Check.s0 (mkB s) (chk n (s.take s.length)) (s.length : Int) = _
    unfold spec_l01Check.s0
    rw [if_neg (by rw [mkB_size]; simp), mkB_size, List.take_length]
    simp
  rw [A', hst]
  rfl

theorem check_impl (s : List UInt8) (hs : s.length ≤ 1000000) : impl_CheckOf 0 (mkB s) = some (chk 0 s, true) := by
  unfold impl_CheckOf impl_within
  have A := loopF_upto (step := fun (t : (Int × Int)) => impl_CheckOf.s0 (mkB s) t.1 t.2) (fun k => (chk 0 (s.take k), (k : Int))) s.length (fun k hk => by
    show impl_CheckOf.s0 (mkB s) (chk 0 (s.take k)) (k : Int) = _
    unfold impl_CheckOf.s0
    rw [if_pos (decide_eq_true (by rw [mkB_size]; omega)), sidx_mkB s k hk, Option.bind_some, chk_step s 0 (by omega) (by omega) k hk, one_more (by omega)])
  have A' : loopF (fun (t : (Int × Int)) => impl_CheckOf.s0 (mkB s) t.1 t.2) (0, 0) = _ := A
  have hst : loopF (fun (t : (Int × Int)) => impl_CheckOf.s0 (mkB s) t.1 t.2) (chk 0 (s.take s.length), (s.length : Int)) = some (chk 0 s, (s.length : Int), false) := by
    apply loopF_stop
    show impl_CheckOf.s0 (mkB s) (chk 0 (s.take s.length)) (s.length : Int) = _
    unfold impl_CheckOf.s0
    rw [if_neg (by rw [mkB_size]; simp), mkB_size, List.take_length]
    simp
  rw [A', hst]
  rfl
end Go.H
