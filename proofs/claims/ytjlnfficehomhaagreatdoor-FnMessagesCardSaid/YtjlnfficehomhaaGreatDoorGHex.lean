/- strconv.FormatInt at base 16: what it computes, and that the call comes to it. Written by hand. -/
import Derived.Test.YtjlnfficehomhaaGreatDoorGPow
import Derived.Test.YtjlnfficehomhaaGreatDoorLibB
import Derived.Test.YtjlnfficehomhaaGreatDoorPNum
set_option linter.unusedVariables false
namespace Go.H
open Go Go.Proofs

/-- the table's place that is read: the zeros behind the lowest one of 16 -/
def TabH (h : Heap) : Prop := (hw h).cell? ⟨4, 15, none⟩ = some (.int .u8 4)
theorem TabH.mod {h h' : Heap} (H : TabH h) (M : Mod [] h h') : TabH h' :=
 cell_chg (S := fun _ => False) ⟨M.size, fun k hk _ => M.same k hk (by simp)⟩ H (fun x => x)

theorem rel_ints (k : IntKind) : ∀ l : List Int, RelL (kI k) l (l.map (Value.int k))
 | [] => rfl
 | x :: l => ⟨[.int k x], l.map (Value.int k), rfl, rfl, rel_ints k l⟩

section
variable {P : Program} {φ : Fr} {h : Heap} {o : Oper}

theorem opv_bits' {op : BinOp} {t t' : TypeId} {x y : Operand} {k : IntKind} {m n r : Int} (ho : o.op = .binOp op t x y t') (hop : (match op with | .and | .or | .xor => true | _ => false) = true) (e : bits op k m n = r) (hx : φ.ev x = some (.int k m)) (hy : φ.ev y = some (.int k n)) : OpV P φ o h (Det (.int k r) h) := e ▸ opv_bits ho hop hx hy
theorem opv_shift' {op : BinOp} {t t' : TypeId} {x y : Operand} {k j : IntKind} {m n r : Int} (ho : o.op = .binOp op t x y t') (hop : (match op with | .shl | .shr => true | _ => false) = true) (e : bits op k m n = r) (hn : 0 ≤ n) (hx : φ.ev x = some (.int k m)) (hy : φ.ev y = some (.int j n)) : OpV P φ o h (Det (.int k r) h) := e ▸ opv_shift ho hop hn hx hy
theorem opv_sub' {t t' : TypeId} {x y : Operand} {k : IntKind} {m n r : Int} (e : k.wrap (m - n) = r) (ho : o.op = .binOp .sub t x y t') (hx : φ.ev x = some (.int k m)) (hy : φ.ev y = some (.int k n)) : OpV P φ o h (Det (.int k r) h) := e ▸ opv_sub ho hx hy
theorem opv_mul' {t t' : TypeId} {x y : Operand} {k : IntKind} {m n r : Int} (e : k.wrap (m * n) = r) (ho : o.op = .binOp .mul t x y t') (hx : φ.ev x = some (.int k m)) (hy : φ.ev y = some (.int k n)) : OpV P φ o h (Det (.int k r) h) := e ▸ opv_mul ho hx hy
theorem opv_ineg' {t : TypeId} {x : Operand} {k : IntKind} {n r : Int} (e : k.wrap (0 - n) = r) (ho : o.op = .unOp .neg t x) (hx : φ.ev x = some (.int k n)) : OpV P φ o h (Det (.int k r) h) := e ▸ opv_ineg ho hx
theorem opv_i2i' {src dst : TypeId} {x : Operand} {k j : IntKind} {n r : Int} (e : j.wrap n = r) (ho : o.op = .convert src dst x) (hs : (P.underlying src).isSome = true) (hd : P.underlying dst = some (.int j)) (hx : φ.ev x = some (.int k n)) : OpV P φ o h (Det (.int j r) h) := e ▸ opv_i2i ho hs hd hx

theorem opv_icmp' {op : BinOp} {t t' : TypeId} {x y : Operand} {k : IntKind} {m n : Int} {r : Bool} (ho : o.op = .binOp op t x y t') (hop : (match op with | .eql | .neq | .lss | .leq | .gtr | .geq => true | _ => false) = true) (e : icmp op m n = r) (hx : φ.ev x = some (.int k m)) (hy : φ.ev y = some (.int k n)) : OpV P φ o h (Det (.bool r) h) := e ▸ opv_icmp ho hop hx hy

theorem opv_indexArr' {t E : TypeId} {len sz : Nat} {x i : Operand} {k : IntKind} {n : Nat} {b off : Nat} (ho : o.op = .indexAddr t x i) (ht : arrLen P t = some (len, E)) (hs : (P.info? E).map (·.size) = some sz) (hx : φ.ev x = some (.pointer (some ⟨b, off, none⟩))) (hi : φ.ev i = some (.int k (n : Int))) (hn : n < len) : OpV P φ o h (Det (.pointer (some ⟨b, off + n * sz, none⟩)) h) :=
 opv_indexArr ho ht hs hx hi (Nat.ble_eq_true_of_le hn)

theorem opv_cutArr {t E : TypeId} {len : Nat} {x lo : Operand} {k : IntKind} {b n : Nat} (ho : o.op = .slice t x (some lo) none none) (ht : arrLen P t = some (len, E)) (hs : (P.info? E).map (·.size) = some 1) (hx : φ.ev x = some (.pointer (some ⟨b, 0, none⟩))) (hi : φ.ev lo = some (.int k (n : Int))) (hn : n < len) : OpV P φ o h (Det (.slice (some ⟨b, n, none⟩) (len - n) (len - n)) h) := by
 intro a w hev hw
 refine .inl ⟨_, w, ?_, Same.refl w, rfl, hw.symm⟩
 obtain ⟨info, hinfo, hsz⟩ := Option.map_eq_some_iff.1 hs
 have hu := arrLen_spec ht
 have h1 : (0 : Int) ≤ (n : Int) ∧ (n : Int) ≤ (len : Int) := ⟨by omega, by omega⟩
 have h2 : ¬ len = n := by omega
 simp [execOp, ho, hev x _ hx, hev lo _ hi, Instr.sliceAt, Instr.sliceBounds, Instr.sliceBound, Instr.sureAddr, asIntOf, run_underlying hu, h1, sizeOf, typeInfo, hinfo, hsz, add_lit, h2]
 intro hh
 omega

/-- what stands behind a place of an array of bytes -/
theorem SL.ofBox {k : IntKind} {b n : Nat} {cs : List Value} {l : List Int} (H : Bx h b cs) (hc : cs.drop n = l.map (Value.int k)) : SL (kI k) h.size h (.slice (some ⟨b, n, none⟩) l.length l.length) l := by
 refine ⟨_, _, l.map (Value.int k), rfl, ⟨Nat.le_refl _, rel_ints k l⟩, .inr ⟨_, rfl, rfl, H.lt, fun j u hu => ?_⟩⟩
 have : cs[n + j]? = some u := by rw [← List.getElem?_drop, hc]; exact hu
 rw [add_lit]
 exact H.cell this
end

/-! ### what it computes -/
def DIG : ByteArray := ⟨#[48, 49, 50, 51, 52, 53, 54, 55, 56, 57, 97, 98, 99, 100, 101, 102, 103, 104, 105, 106, 107, 108, 109, 110, 111, 112, 113, 114, 115, 116, 117, 118, 119, 120, 121, 122]⟩
def fmtStep (s : Int × List Int) : Option ((Int × List Int) ⊕ (Int × List Int)) := if decide (s.1 ≥ 16) = true then ((sidx DIG (bits .and .u64 s.1 15)).bind fun y => if s.2.length < 60 then some (.inl (bits .shr .u64 s.1 4, y :: s.2)) else none) else some (.inr s)
noncomputable def fmt16 (n : Int) : Option ByteArray := (loopF fmtStep (n, [])).bind fun s => (sidx DIG s.1).bind fun y => if s.2.length < 60 then some (mkS (y :: s.2)) else none
noncomputable def strconv_FormatInt (a0 a1 : Int) : Option ByteArray := if a1 = 16 ∧ 0 ≤ a0 ∧ a0 < 4294967296 then fmt16 a0 else none

/-- the array, written from its end -/
def fcells (acc : List Int) : List Value := List.replicate (65 - acc.length) (.int .u8 0) ++ acc.map (Value.int .u8)
theorem fcells_len {acc : List Int} (h : acc.length ≤ 65) : (fcells acc).length = 65 := by
 unfold fcells
 rw [List.length_append, List.length_replicate, List.length_map]
 omega
theorem fcells_set {acc : List Int} (y : Int) (h : acc.length < 60) : (fcells acc).set (64 - acc.length) (.int .u8 y) = fcells (y :: acc) := by
 unfold fcells
 rw [List.length_cons, show 65 - acc.length = (64 - acc.length) + 1 by omega, show 65 - (acc.length + 1) = 64 - acc.length by omega, List.replicate_succ', List.append_assoc, List.set_append_right _ _ (by simp), List.length_replicate, Nat.sub_self]
 rfl
theorem fcells_drop (acc : List Int) : (fcells acc).drop (65 - acc.length) = acc.map (Value.int .u8) := by
 unfold fcells
 rw [List.drop_append_of_le_length (by simp)]
 simp

theorem Tryz.arr150 : arrLen Tryz.prog 150 = some (65, 5) := by kernel_rfl
theorem Tryz.arr157 : arrLen Tryz.prog 157 = some (64, 5) := by kernel_rfl
theorem Tryz.size5' : (Tryz.prog.info? 5).map (·.size) = some 1 := by kernel_rfl
theorem Tryz.one5' : oneCellT Tryz.prog 5 = true := by kernel_rfl
theorem Tryz.zero150 : (Tryz.prog.info? 150).bind (·.zero) = some (.agg (List.replicate 65 (Value.int .u8 0)).toArray) := by kernel_rfl

/-! ### the calls -/
set_option maxRecDepth 20000 in
theorem tz64_ok (h0 : Heap) (GT : TabH h0) : CallsH Tryz.prog 113 ([(.int .u64 16)].toArray ++ [].toArray) h0 (fun v h' => v = (.int .i64 4) ∧ h0 = h') := by
 refine callsH_of_W (l := [(.int .u64 16)]) (cap := []) 14 Tryz.func113 rfl rfl rfl ?_
 refine W.seq ?_
 refine W.region ?_
 refine RL.opD (by decide) (opv_assign rfl rfl) ?_
 refine RL.nil ?_
 refine thnN ?_
 refine W.seq ?_
 refine W.seq ?_
 refine W.region ?_
 refine RL.opD (by decide) (opv_move rfl rfl) ?_
 refine RL.opD (by decide) (opv_icmp rfl rfl rfl rfl) ?_
 refine RL.nil ?_
 refine thnN ?_
 refine W.condF rfl (by decide) ?_
 refine W.skip ?_
 refine thnN ?_
 refine W.seq ?_
 refine W.region ?_
 refine RL.opD (by decide) (opv_move rfl rfl) ?_
 refine RL.opD (by decide) (opv_move rfl rfl) ?_
 refine RL.opD (by decide) (opv_ineg' (r := 18446744073709551600) (by decide +kernel) rfl rfl) ?_
 refine RL.opD (by decide) (opv_bits' (r := 16) rfl rfl (by decide +kernel) rfl rfl) ?_
 refine RL.opD (by decide) (opv_mul' (r := 4573923408821661840) (by decide +kernel) rfl rfl rfl) ?_
 refine RL.opD (by decide) (opv_shift' (r := ((15 : Nat) : Int)) rfl rfl (by decide +kernel) (by decide) rfl rfl) ?_
 refine RL.opD (by decide) (opv_indexArr' (n := 15) (b := 4) (off := 0) rfl Tryz.arr157 Tryz.size5' rfl rfl (by decide)) ?_
 refine RL.opD (by decide) (opv_load (a := ⟨4, 15, none⟩) rfl Tryz.one5' rfl GT) ?_
 refine RL.opD (by decide) (opv_i2i' (r := 4) (by decide +kernel) rfl (by rw [Tryz.underlying5]; rfl) Tryz.underlying3 rfl) ?_
 refine RL.opD (by decide) (opv_assign rfl rfl) ?_
 refine RL.nil ?_
 refine thnN ?_
 refine W.ret ?_
 exact Rt.one rfl rfl ⟨rfl, rfl⟩

set_option maxRecDepth 20000 in
theorem tz_ok (h0 : Heap) (GT : TabH h0) : CallsH Tryz.prog 108 ([(.int .u64 16)].toArray ++ [].toArray) h0 (fun v h' => v = (.int .i64 4) ∧ h0 = h') := by
 refine callsH_of_W (l := [(.int .u64 16)]) (cap := []) 8 Tryz.func108 rfl rfl rfl ?_
 refine W.seq ?_
 refine W.region ?_
 refine RL.opD (by decide) (opv_assign rfl rfl) ?_
 refine RL.nil ?_
 refine thnN ?_
 refine W.seq ?_
 refine W.condF rfl rfl ?_
 refine W.skip ?_
 refine thnN ?_
 refine W.seq ?_
 refine W.region ?_
 refine RL.opD (by decide) (opv_move rfl rfl) ?_
 refine RL.op _ (by decide) (opv_call (cap := []) (tz64_ok _ GT) rfl rfl ⟨rfl, trivial⟩ Tryz.func113 rfl rfl) ?_
 rintro _ _ ⟨rfl, rfl⟩
 refine RL.opD (by decide) (opv_assign rfl rfl) ?_
 refine RL.nil ?_
 refine thnN ?_
 refine W.ret ?_
 exact Rt.one rfl rfl ⟨rfl, rfl⟩
end Go.H
