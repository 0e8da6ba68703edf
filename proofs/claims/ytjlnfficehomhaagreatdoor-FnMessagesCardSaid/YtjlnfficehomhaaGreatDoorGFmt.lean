/- strconv.FormatInt at base 16: the call. Written by hand. -/
import Derived.Test.YtjlnfficehomhaaGreatDoorGHex
set_option linter.unusedVariables false
namespace Go.H
open Go Go.Proofs

theorem nat_sub1 {k : Nat} (h0 : 1 ≤ k) (h : k ≤ 100) : IntKind.wrap .i64 ((k : Int) - 1) = ((k - 1 : Nat) : Int) := by
 rw [wrap_small (by omega) (by omega)]; omega

set_option maxHeartbeats 4000000 in
set_option maxRecDepth 20000 in
theorem formatBits_ok (h0 : Heap) (GT : TabH h0) (n : Int) (r : ByteArray) (hp : fmt16 n = some r) : CallsH Tryz.prog 95 ([(.slice none 0 0), (.int .u64 n), (.int .i64 16), (.bool false), (.bool false)].toArray ++ [].toArray) h0 (fun v h' => v = (.tuple #[.slice none 0 0, .string r]) ∧ Mod [] h0 h') := by
 unfold fmt16 at hp
 obtain ⟨⟨un, acc0⟩, hloop, hp⟩ := Option.bind_eq_some_iff.1 hp
 obtain ⟨yl, hyl, hp⟩ := Option.bind_eq_some_iff.1 hp
 obtain ⟨hlen, hp⟩ := of_ite hp
 have er := Option.some.inj hp
 subst er
 refine callsH_of_W (l := [(.slice none 0 0), (.int .u64 n), (.int .i64 16), (.bool false), (.bool false)]) (cap := []) 102 Tryz.func95 rfl rfl rfl ?_
 refine W.seq ?_
 refine W.region ?_
 refine RL.opD (by decide) (opv_assign rfl rfl) ?_
 refine RL.opD (by decide) (opv_assign rfl rfl) ?_
 refine RL.nil ?_
 refine thnN ?_
 refine W.seq ?_
 refine W.seq ?_
 refine W.region ?_
 refine RL.opD (by decide) (opv_move rfl rfl) ?_
 refine RL.opD (by decide) (opv_icmp rfl rfl rfl rfl) ?_
 refine RL.opD (by decide) (opv_move rfl rfl) ?_
 refine RL.yesD rfl rfl rfl (by decide) (opv_move rfl rfl) ?_
 refine RL.yesD rfl rfl rfl (by decide) (opv_icmp rfl rfl rfl rfl) ?_
 refine RL.opD (by decide) (opv_pick (b := false) (u := .bool false) rfl rfl (fun e => absurd e (by decide)) (fun _ => rfl) rfl) ?_
 refine RL.opD (by decide) (opv_move rfl rfl) ?_
 refine RL.yesD rfl rfl rfl (by decide) (opv_move rfl rfl) ?_
 refine RL.yesD rfl rfl rfl (by decide) (opv_icmp rfl rfl rfl rfl) ?_
 refine RL.opD (by decide) (opv_pick (b := false) (u := .bool false) rfl rfl (fun e => absurd e (by decide)) (fun _ => rfl) rfl) ?_
 refine RL.nil ?_
 refine thnN ?_
 refine W.condF rfl rfl ?_
 refine W.skip ?_
 refine thnN ?_
 refine W.sub (ψ := [(0, (.slice none 0 0)), (1, (.int .u64 n)), (2, (.int .i64 16)), (3, (.bool false)), (4, (.bool false)), (10, (.slice none 0 0)), (11, (.string ⟨#[]⟩))]) ⟨rfl, rfl, rfl, rfl, rfl, rfl, rfl, trivial⟩ ?_
 refine W.seq ?_
 refine W.region ?_
 refine RL.op _ (by decide) (opS_boxed (opv_alloc (cs := fcells []) rfl Tryz.zero150 rfl)) ?_
 rintro _ h1 ⟨b, rfl, M1, T1⟩
 obtain ⟨X1, S1⟩ := Sep.turn0 (Mod.refl [] h0) (Sep.nil [] h0.size h0) M1 T1
 refine RL.nil ?_
 refine thnN ?_
 refine W.seq ?_
 refine W.region ?_
 refine RL.opD (by decide) (opv_assign rfl rfl) ?_
 refine RL.nil ?_
 refine thnN ?_
 refine W.seq ?_
 refine W.seq ?_
 refine W.region ?_
 refine RL.opD (by decide) (opv_move rfl rfl) ?_
 refine RL.nil ?_
 refine thnN ?_
 refine W.condF rfl rfl ?_
 refine W.skip ?_
 refine thnN ?_
 refine W.seq ?_
 refine W.cut (fun φ' h' => Fr.sub [(3, (.bool false)), (4, (.bool false)), (10, (.slice none 0 0)), (12, (.pointer (some ⟨b, 0, none⟩))), (13, (.int .i64 ((65 - (yl :: acc0).length : Nat) : Int)))] φ' ∧ Mod [] h0 h' ∧ Sep [] h0.size h' [boxO b (fcells (yl :: acc0))]) ?_ ?_
 ·refine W.seq ?_
  refine W.region ?_
  refine RL.opD (by decide) (opv_move rfl rfl) ?_
  refine RL.op _ (by decide) (opv_call (cap := []) (strconv_isPowerOfTwo_ok _ 16 true (by decide +kernel)) rfl rfl ⟨rfl, trivial⟩ Tryz.func107 rfl rfl) ?_
  rintro _ _ ⟨rfl, rfl⟩
  refine RL.nil ?_
  refine thnN ?_
  refine W.condT rfl rfl ?_
  refine W.seq ?_
  refine W.region ?_
  refine RL.opD (by decide) (opv_move rfl rfl) ?_
  refine RL.opD (by decide) (opv_i2i' (r := 16) (by decide +kernel) rfl (by rw [Tryz.underlying3]; rfl) Tryz.underlying84 rfl) ?_
  refine RL.op _ (by decide) (opv_call (cap := []) (tz_ok _ (TabH.mod GT X1)) rfl rfl ⟨rfl, trivial⟩ Tryz.func108 rfl rfl) ?_
  rintro _ _ ⟨rfl, rfl⟩
  refine RL.opD (by decide) (opv_i2i' (r := 4) (by decide +kernel) rfl (by rw [Tryz.underlying3]; rfl) Tryz.underlying84 rfl) ?_
  refine RL.opD (by decide) (opv_assign rfl rfl) ?_
  refine RL.nil ?_
  refine thnN ?_
  refine W.seq ?_
  refine W.region ?_
  refine RL.opD (by decide) (opv_move rfl rfl) ?_
  refine RL.opD (by decide) (opv_i2i' (r := 16) (by decide +kernel) rfl (by rw [Tryz.underlying3]; rfl) Tryz.underlying70 rfl) ?_
  refine RL.opD (by decide) (opv_assign rfl rfl) ?_
  refine RL.nil ?_
  refine thnN ?_
  refine W.seq ?_
  refine W.region ?_
  refine RL.opD (by decide) (opv_move rfl rfl) ?_
  refine RL.opD (by decide) (opv_i2i' (r := 16) (by decide +kernel) rfl (by rw [Tryz.underlying3]; rfl) Tryz.underlying84 rfl) ?_
  refine RL.opD (by decide) (opv_sub' (r := 15) (by decide +kernel) rfl rfl rfl) ?_
  refine RL.opD (by decide) (opv_assign rfl rfl) ?_
  refine RL.nil ?_
  refine thnN ?_
  refine W.sub (ψ := [(1, (.int .u64 n)), (3, (.bool false)), (4, (.bool false)), (10, (.slice none 0 0)), (12, (.pointer (some ⟨b, 0, none⟩))), (13, (.int .i64 65)), (14, (.int .u64 4)), (15, (.int .u64 16)), (16, (.int .u64 15))]) ⟨rfl, rfl, rfl, rfl, rfl, rfl, rfl, rfl, rfl, trivial⟩ ?_
  refine W.seq ?_
  refine W.cut (fun φ' h' => Fr.sub [(1, (.int .u64 un)), (3, (.bool false)), (4, (.bool false)), (10, (.slice none 0 0)), (12, (.pointer (some ⟨b, 0, none⟩))), (13, (.int .i64 ((65 - acc0.length : Nat) : Int)))] φ' ∧ Mod [] h0 h' ∧ Sep [] h0.size h' [boxO b (fcells acc0)]) ?_ ?_
  ·refine W.block ?_
   refine W.loopS (fun (s : Int × List Int) φ' h' => Fr.sub [(1, (.int .u64 s.1)), (3, (.bool false)), (4, (.bool false)), (10, (.slice none 0 0)), (12, (.pointer (some ⟨b, 0, none⟩))), (13, (.int .i64 ((65 - s.2.length : Nat) : Int))), (14, (.int .u64 4)), (15, (.int .u64 16)), (16, (.int .u64 15))] φ' ∧ Mod [] h0 h' ∧ Sep [] h0.size h' [boxO b (fcells s.2)]) hloop ⟨⟨rfl, rfl, rfl, rfl, rfl, rfl, rfl, rfl, rfl, trivial⟩, X1, S1⟩ ?_
   rintro ⟨u, acc⟩ φ' h2 o1 ⟨hs1, X2, S2⟩ ho1 hy1
   have hs1 : Fr.sub [(1, (.int .u64 u)), (3, (.bool false)), (4, (.bool false)), (10, (.slice none 0 0)), (12, (.pointer (some ⟨b, 0, none⟩))), (13, (.int .i64 ((65 - acc.length : Nat) : Int))), (14, (.int .u64 4)), (15, (.int .u64 16)), (16, (.int .u64 15))] φ' := hs1
   have S2 : Sep [] h0.size h2 [boxO b (fcells acc)] := S2
   unfold fmtStep at ho1
   refine W.sub hs1 ?_
   refine W.seq ?_
   refine W.seq ?_
   refine W.region ?_
   refine RL.opD (by decide) (opv_move rfl rfl) ?_
   refine RL.opD (by decide) (opv_move rfl rfl) ?_
   refine RL.opD (by decide) (opv_icmp rfl rfl rfl rfl) ?_
   refine RL.nil ?_
   refine thnN ?_
   by_cases c1 : (decide (u ≥ 16)) = true
   ·rw [if_pos c1] at ho1
    obtain ⟨y, hy, ho1⟩ := Option.bind_eq_some_iff.1 ho1
    obtain ⟨hl, ho1⟩ := of_ite ho1
    simp only at hl hy
    refine W.condT rfl c1 ?_
    refine W.skip ?_
    refine thnN ?_
    refine W.block ?_
    refine W.seq ?_
    refine W.region ?_
    refine RL.opD (by decide) (opv_move rfl rfl) ?_
    refine RL.opD (by decide) (opv_sub' (r := ((65 - acc.length - 1 : Nat) : Int)) (nat_sub1 (by omega) (by omega)) rfl rfl rfl) ?_
    refine RL.opD (by decide) (opv_assign rfl rfl) ?_
    refine RL.nil ?_
    refine thnN ?_
    refine W.seq ?_
    refine W.region ?_
    refine RL.opD (by decide) (opv_move rfl rfl) ?_
    refine RL.opD (by decide) (opv_move rfl rfl) ?_
    refine RL.opD (by decide) (opv_move rfl rfl) ?_
    refine RL.opD (by decide) (opv_bits rfl rfl rfl rfl) ?_
    refine RL.opD (by decide) (opv_indexS rfl Tryz.underlying9 rfl rfl hy) ?_
    refine RL.opD (by decide) (opv_indexArr' (n := 65 - acc.length - 1) (b := b) (off := 0) rfl Tryz.arr150 Tryz.size5' rfl rfl (by omega)) ?_
    have ho : (boxO b (fcells acc)).holds h2 := Sep.at (o := boxO b (fcells acc)) S2 0 rfl
    refine RL.op0 _ (opS_stored (cs := fcells acc) (cs' := (fcells acc).set (0 + (65 - acc.length - 1) * 1) (.int .u8 y)) (opv_storeB (k := 0 + (65 - acc.length - 1) * 1) (cs := fcells acc) rfl Tryz.size5' rfl rfl rfl ho (by rw [fcells_len (by omega)]; omega)) ho) ?_
    rintro _ h3 ⟨rfl, M3, T3⟩
    obtain ⟨X3, S3⟩ := Sep.turn X2 (show Sep [] h0.size h2 ([boxO b (fcells acc)] ++ []) from S2) M3 T3
    refine RL.nil ?_
    refine thnN ?_
    refine W.region ?_
    refine RL.opD (by decide) (opv_move rfl rfl) ?_
    refine RL.opD (by decide) (opv_move rfl rfl) ?_
    refine RL.opD (by decide) (opv_shift rfl rfl (by decide) rfl rfl) ?_
    refine RL.opD (by decide) (opv_assign rfl rfl) ?_
    refine RL.nil ?_
    refine blkN ?_
    have eo1 := Option.some.inj ho1
    subst eo1
    refine rndN (s' := (bits .shr .u64 u 4, y :: acc)) rfl ?_
    have ec : (fcells acc).set (0 + (65 - acc.length - 1) * 1) (.int .u8 y) = fcells (y :: acc) := by
     rw [show 0 + (65 - acc.length - 1) * 1 = 64 - acc.length by omega, fcells_set y hl]
    rw [ec] at S3
    have ei : ((65 - acc.length - 1 : Nat) : Int) = ((65 - (y :: acc).length : Nat) : Int) := by rw [List.length_cons]; omega
    refine ⟨⟨rfl, rfl, rfl, rfl, rfl, ?_, rfl, rfl, rfl, trivial⟩, X3, S3⟩
    rw [← ei]; rfl
   ·rw [if_neg c1] at ho1
    have c1 := eq_false_of_ne_true c1
    refine W.condF rfl c1 ?_
    refine W.exit ?_
    refine thnX ?_
    refine rndX ?_
    refine blkI ?_
    have eo1 := Option.some.inj ho1
    subst eo1
    have ey1 := hy1 _ rfl
    cases ey1
    refine onlyN ?_
    exact ⟨⟨rfl, rfl, rfl, rfl, rfl, rfl, trivial⟩, X2, S2⟩
  rintro φ' h2 ⟨hs1, X2, S2⟩
  refine thnN ?_
  refine W.sub hs1 ?_
  simp only at hlen hyl
  refine W.seq ?_
  refine W.region ?_
  refine RL.opD (by decide) (opv_move rfl rfl) ?_
  refine RL.opD (by decide) (opv_sub' (r := ((65 - acc0.length - 1 : Nat) : Int)) (nat_sub1 (by omega) (by omega)) rfl rfl rfl) ?_
  refine RL.opD (by decide) (opv_assign rfl rfl) ?_
  refine RL.nil ?_
  refine thnN ?_
  refine W.region ?_
  refine RL.opD (by decide) (opv_move rfl rfl) ?_
  refine RL.opD (by decide) (opv_move rfl rfl) ?_
  refine RL.opD (by decide) (opv_indexS rfl Tryz.underlying9 rfl rfl hyl) ?_
  refine RL.opD (by decide) (opv_indexArr' (n := 65 - acc0.length - 1) (b := b) (off := 0) rfl Tryz.arr150 Tryz.size5' rfl rfl (by omega)) ?_
  have ho : (boxO b (fcells acc0)).holds h2 := Sep.at (o := boxO b (fcells acc0)) S2 0 rfl
  refine RL.op0 _ (opS_stored (cs := fcells acc0) (cs' := (fcells acc0).set (0 + (65 - acc0.length - 1) * 1) (.int .u8 yl)) (opv_storeB (k := 0 + (65 - acc0.length - 1) * 1) (cs := fcells acc0) rfl Tryz.size5' rfl rfl rfl ho (by rw [fcells_len (by omega)]; omega)) ho) ?_
  rintro _ h3 ⟨rfl, M3, T3⟩
  obtain ⟨X3, S3⟩ := Sep.turn X2 (show Sep [] h0.size h2 ([boxO b (fcells acc0)] ++ []) from S2) M3 T3
  refine RL.nil ?_
  refine onlyN ?_
  have ec : (fcells acc0).set (0 + (65 - acc0.length - 1) * 1) (.int .u8 yl) = fcells (yl :: acc0) := by
   rw [show 0 + (65 - acc0.length - 1) * 1 = 64 - acc0.length by omega, fcells_set yl hlen]
  rw [ec] at S3
  have ei : ((65 - acc0.length - 1 : Nat) : Int) = ((65 - (yl :: acc0).length : Nat) : Int) := by rw [List.length_cons]; omega
  refine ⟨⟨rfl, rfl, rfl, rfl, ?_, trivial⟩, X3, S3⟩
  rw [← ei]; rfl
 rintro φ' h2 ⟨hs1, X2, S2⟩
 refine thnN ?_
 refine W.sub hs1 ?_
 simp only at hlen
 refine W.seq ?_
 refine W.seq ?_
 refine W.region ?_
 refine RL.opD (by decide) (opv_move rfl rfl) ?_
 refine RL.nil ?_
 refine thnN ?_
 refine W.condF rfl rfl ?_
 refine W.skip ?_
 refine thnN ?_
 refine W.seq ?_
 refine W.seq ?_
 refine W.region ?_
 refine RL.opD (by decide) (opv_move rfl rfl) ?_
 refine RL.nil ?_
 refine thnN ?_
 refine W.condF rfl rfl ?_
 refine W.skip ?_
 refine thnN ?_
 refine W.seq ?_
 refine W.region ?_
 refine RL.opD (by decide) (opv_move rfl rfl) ?_
 have hb : Bx h2 b (fcells (yl :: acc0)) := Sep.at (o := boxO b (fcells (yl :: acc0))) S2 0 rfl
 have hL : (yl :: acc0).length ≤ 60 := by rw [List.length_cons]; omega
 have hpos : 1 ≤ (yl :: acc0).length := by rw [List.length_cons]; omega
 refine RL.opD (by decide) (opv_cutArr (len := 65) (b := b) (n := 65 - (yl :: acc0).length) rfl Tryz.arr150 Tryz.size5' rfl rfl (by omega)) ?_
 have hsl : SL (kI .u8) h2.size h2 (.slice (some ⟨b, 65 - (yl :: acc0).length, none⟩) (65 - (65 - (yl :: acc0).length)) (65 - (65 - (yl :: acc0).length))) (yl :: acc0) := by
  rw [show 65 - (65 - (yl :: acc0).length) = (yl :: acc0).length by omega]
  exact SL.ofBox hb (fcells_drop _)
 refine RL.opD (by decide) (opv_b2s rfl Tryz.underlying22 Tryz.underlying5 Tryz.underlying9 rfl hsl) ?_
 refine RL.opD (by decide) (opv_assign rfl rfl) ?_
 refine RL.nil ?_
 refine thnN ?_
 refine W.ret ?_
 exact Rt.two rfl rfl rfl ⟨rfl, X2⟩

set_option maxRecDepth 20000 in
theorem formatInt_ok (h0 : Heap) (GT : TabH h0) (n : Int) (hn0 : 0 ≤ n) (hn1 : n < 4294967296) (r : ByteArray) (hp : fmt16 n = some r) : CallsH Tryz.prog 69 ([(.int .i64 n), (.int .i64 16)].toArray ++ [].toArray) h0 (fun v h' => v = (.string r) ∧ Mod [] h0 h') := by
 have hlt : decide (n < 0) = false := decide_eq_false (by omega)
 have hw : IntKind.wrap .u64 n = n := by
  show (n % 18446744073709551616 : Int) = n
  omega
 refine callsH_of_W (l := [(.int .i64 n), (.int .i64 16)]) (cap := []) 54 Tryz.func69 rfl rfl rfl ?_
 refine W.seq ?_
 refine W.region ?_
 refine RL.opD (by decide) (opv_assign rfl rfl) ?_
 refine RL.nil ?_
 refine thnN ?_
 refine W.seq ?_
 refine W.seq ?_
 refine W.region ?_
 refine RL.opD (by decide) (opv_move rfl rfl) ?_
 refine RL.opD (by decide) (opv_icmp rfl rfl rfl rfl) ?_
 refine RL.nil ?_
 refine thnN ?_
 refine W.condF rfl rfl ?_
 refine W.skip ?_
 refine thnN ?_
 refine W.seq ?_
 refine W.region ?_
 refine RL.opD (by decide) (opv_move rfl rfl) ?_
 refine RL.opD (by decide) (opv_i2i' (r := n) hw rfl (by rw [Tryz.underlying2]; rfl) Tryz.underlying70 rfl) ?_
 refine RL.opD (by decide) (opv_move rfl rfl) ?_
 refine RL.opD (by decide) (opv_move rfl rfl) ?_
 refine RL.opD (by decide) (opv_icmp' (r := false) rfl rfl hlt rfl rfl) ?_
 refine RL.op _ (by decide) (opv_call (cap := []) (formatBits_ok _ GT n r hp) rfl rfl ⟨rfl, rfl, rfl, rfl, rfl, trivial⟩ Tryz.func95 rfl rfl) ?_
 rintro _ h1 ⟨rfl, M1⟩
 refine RL.opD (by decide) (opv_move rfl rfl) ?_
 refine RL.opD (by decide) (opv_extract (vs := [.slice none 0 0, .string r]) rfl rfl rfl) ?_
 refine RL.opD (by decide) (opv_extract (vs := [.slice none 0 0, .string r]) rfl rfl rfl) ?_
 refine RL.opD (by decide) (opv_assign rfl rfl) ?_
 refine RL.opD (by decide) (opv_assign rfl rfl) ?_
 refine RL.nil ?_
 refine thnN ?_
 refine W.seq ?_
 refine W.region ?_
 refine RL.opD (by decide) (opv_move rfl rfl) ?_
 refine RL.opD (by decide) (opv_assign rfl rfl) ?_
 refine RL.nil ?_
 refine thnN ?_
 refine W.ret ?_
 exact Rt.one rfl rfl ⟨rfl, M1⟩

set_option maxRecDepth 20000 in
theorem strconv_FormatInt_ok (h0 : Heap) (GT : TabH h0) (a0 : Int) (a1 : Int) (r : ByteArray) (hp : strconv_FormatInt a0 a1 = some r) : CallsH Tryz.prog 49 ([(.int .i64 a0), (.int .i64 a1)].toArray ++ [].toArray) h0 (fun v h' => v = (.string r) ∧ Mod [] h0 h' ∧ Sep [] h0.size h' []) := by
 unfold strconv_FormatInt at hp
 split at hp
 case isFalse => cases hp
 rename_i hc
 obtain ⟨rfl, c0, c1⟩ := hc
 refine callsH_of_W (l := [(.int .i64 a0), (.int .i64 16)]) (cap := []) 8 Tryz.func49 rfl rfl rfl ?_
 refine W.seq ?_
 refine W.region ?_
 refine RL.opD (by decide) (opv_assign rfl rfl) ?_
 refine RL.nil ?_
 refine thnN ?_
 refine W.seq ?_
 refine W.region ?_
 refine RL.opD (by decide) (opv_move rfl rfl) ?_
 refine RL.opD (by decide) (opv_move rfl rfl) ?_
 refine RL.op _ (by decide) (opv_call (cap := []) (formatInt_ok _ GT a0 c0 c1 r hp) rfl rfl ⟨rfl, rfl, trivial⟩ Tryz.func69 rfl rfl) ?_
 rintro _ h1 ⟨rfl, M1⟩
 refine RL.opD (by decide) (opv_assign rfl rfl) ?_
 refine RL.nil ?_
 refine thnN ?_
 refine W.ret ?_
 exact Rt.one rfl rfl ⟨rfl, M1, Sep.nil _ _ _⟩
end Go.H
