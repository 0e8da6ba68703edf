/- Library contracts laid at this program (written by the kit's lay-shelf and lay-plain). -/
import Derived.Ground.SlgnProg
import Derived.Shelf.SlicesG.CompactI
import Derived.Ground.SlsfProg
import Derived.Ground.SlgmProg
import Derived.Shelf.SortM.Plain
import Derived.Shelf.SortM.SortNone
import Derived.Shelf.SlSortCmp.Whole1
import Derived.Shelf.SlSortCmp.NoneTotal
import Derived.Test.YtmgoblppedmdhaaProg
namespace Go.Proofs
open Go.Shelf
def Try.laysSlN43_f160_ren : Go.Shelf.Ren := ⟨fun | 43 => 160 | n => n, fun | 22 => 71 | 23 => 2 | 3 => 3 | 4 => 4 | 0 => 0 | n => n, fun | n => n⟩
theorem Try.laysSlN43_f160 : Go.Proofs.SlLaysN.n43 Try.prog Try.laysSlN43_f160_ren := {
 mixed := by kernel_rfl
 f43 := ⟨Try.f160.name, by decide, Try.func160.trans (congrArg some (by kernel_rfl))⟩
 t0 := Try.underlying0
 a0 := Try.isAgg0
 z0 := Try.sizeOf0
 v0 := Try.zeroValue0
 t3 := Try.underlying3
 a3 := Try.isAgg3
 z3 := Try.sizeOf3
 v3 := Try.zeroValue3
 t4 := Try.underlying4
 a4 := Try.isAgg4
 z4 := Try.sizeOf4
 v4 := Try.zeroValue4
 t22 := Try.underlying71
 a22 := Try.isAgg71
 z22 := Try.sizeOf71
 v22 := Try.zeroValue71
 t23 := Try.underlying2
 a23 := Try.isAgg2
 z23 := Try.sizeOf2
 v23 := Try.zeroValue2
 i23 := by kernel_rfl }
open Go.RowKit Go.Lib Go.Sort in
/-- slices.Compact at []int: "Compact replaces consecutive runs of equal elements with a single copy. This is like the uniq command found on Unix. Compact modifies the contents of the slice s and returns the modified slice, which may have a smaller length. Compact zeroes the elements between the new length and the original length. The result preserves the nilness of s.": IT RETURNS THE SLICE CUT TO 'Lib.compact zs'; ITS CELLS HOLD 'Lib.compact zs', THEN ZERO VALUES up to the old length; all else is as it was, but for the count of draws. IN THE WORDS OF slices.Sort's CONTRACT ('Holds', 'putRow'): so the everyday 'slices.Sort(xs); xs = slices.Compact(xs)' goes from the one contract to the other. It asks 'zs.length ≤ cap' (every slice's: the reslicing 's[:k]' looks at it). Length 0, nil: '.._empty'. (LAID AT THE INSTANCE 'slices.Compact[[]int64,int64]': no walk: one application.) -/
theorem Try.slices_Compact_int (blk off cap : Nat) (zs : List Int) (w : World) (hH : Holds (Value.int .i64) w blk off zs.toArray) (hsz : zs.length ≤ 9223372036854775807) (hcap : zs.length ≤ cap) :
  Calls Try.prog 160 #[.slice (some ⟨blk, off, none⟩) zs.length cap] w fun e w' => e = .returned (.slice (some ⟨blk, off, none⟩) (Lib.compact zs).length cap) ∧ ∃ q, w' = putRow (Value.int .i64) (Sort.ahead w q) blk off (Lib.compact zs ++ List.replicate (zs.length - (Lib.compact zs).length) 0).toArray := AnyG.slices_Compact_int Try.laysSlN43_f160 blk off cap zs w hH hsz hcap
open Go.RowKit Go.Lib Go.Sort in
/-- The same at a slice of length 0, a nil one too: it comes back as it is. (LAID AT THE INSTANCE 'slices.Compact[[]int64,int64]': no walk: one application.) -/
theorem Try.slices_Compact_int_empty (a : Option Addr) (cap : Nat) (w : World) :
  Calls Try.prog 160 #[.slice a 0 cap] w fun e w' => e = .returned (.slice a 0 cap) ∧ w' = w := AnyG.slices_Compact_int_empty Try.laysSlN43_f160 a cap w
def Try.laysSlM5_f126_ren : Go.Shelf.Ren := ⟨fun | 5 => 126 | 8 => 164 | 7 => 163 | 19 => 185 | 20 => 186 | 10 => 176 | 11 => 177 | 12 => 178 | 13 => 179 | 14 => 180 | 15 => 181 | 16 => 182 | 17 => 183 | 18 => 184 | 30 => 198 | 31 => 199 | 32 => 200 | 33 => 201 | 34 => 202 | 35 => 195 | 40 => 207 | n => n, fun | 23 => 71 | 25 => 2 | 3 => 3 | 32 => 178 | 22 => 71 | 0 => 0 | 44 => 184 | 46 => 154 | 4 => 4 | 36 => 190 | 35 => 189 | 41 => 194 | 5 => 5 | 9 => 9 | 53 => 204 | 57 => 208 | 63 => 212 | 64 => 213 | n => n, fun | n => n⟩
theorem Try.laysSlM5_f126 : Go.Proofs.SlLaysM.n5 Try.prog Try.laysSlM5_f126_ren := {
 mixed := by kernel_rfl
 f5 := ⟨Try.f126.name, by decide, Try.func126.trans (congrArg some (by kernel_rfl))⟩
 f7 := ⟨Try.f163.name, by decide, Try.func163.trans (congrArg some (by kernel_rfl))⟩
 f8 := Try.func164.trans (congrArg some (by kernel_rfl))
 f10 := ⟨Try.f176.name, by decide, Try.func176.trans (congrArg some (by kernel_rfl))⟩
 f11 := ⟨Try.f177.name, by decide, Try.func177.trans (congrArg some (by kernel_rfl))⟩
 f12 := ⟨Try.f178.name, by decide, Try.func178.trans (congrArg some (by kernel_rfl))⟩
 f13 := ⟨Try.f179.name, by decide, Try.func179.trans (congrArg some (by kernel_rfl))⟩
 f14 := ⟨Try.f180.name, by decide, Try.func180.trans (congrArg some (by kernel_rfl))⟩
 f15 := ⟨Try.f181.name, by decide, Try.func181.trans (congrArg some (by kernel_rfl))⟩
 f16 := ⟨Try.f182.name, by decide, Try.func182.trans (congrArg some (by kernel_rfl))⟩
 f17 := ⟨Try.f183.name, by decide, Try.func183.trans (congrArg some (by kernel_rfl))⟩
 f18 := ⟨Try.f184.name, by decide, Try.func184.trans (congrArg some (by kernel_rfl))⟩
 f19 := Try.func185.trans (congrArg some (by kernel_rfl))
 f20 := Try.func186.trans (congrArg some (by kernel_rfl))
 f30 := ⟨Try.f198.name, by decide, Try.func198.trans (congrArg some (by kernel_rfl))⟩
 f31 := Try.func199.trans (congrArg some (by kernel_rfl))
 f32 := Try.func200.trans (congrArg some (by kernel_rfl))
 f33 := ⟨Try.f201.name, by decide, Try.func201.trans (congrArg some (by kernel_rfl))⟩
 f34 := ⟨Try.f202.name, by decide, Try.func202.trans (congrArg some (by kernel_rfl))⟩
 f35 := ⟨Try.f195.name, by decide, Try.func195.trans (congrArg some (by kernel_rfl))⟩
 f40 := ⟨Try.f207.name, by decide, Try.func207.trans (congrArg some (by kernel_rfl))⟩
 t0 := Try.underlying0
 a0 := Try.isAgg0
 z0 := Try.sizeOf0
 v0 := Try.zeroValue0
 t3 := Try.underlying3
 a3 := Try.isAgg3
 z3 := Try.sizeOf3
 v3 := Try.zeroValue3
 t4 := Try.underlying4
 a4 := Try.isAgg4
 z4 := Try.sizeOf4
 v4 := Try.zeroValue4
 t5 := Try.underlying5
 a5 := Try.isAgg5
 z5 := Try.sizeOf5
 v5 := Try.zeroValue5
 t9 := Try.underlying9
 a9 := Try.isAgg9
 z9 := Try.sizeOf9
 v9 := Try.zeroValue9
 t22 := Try.underlying71
 a22 := Try.isAgg71
 z22 := Try.sizeOf71
 v22 := Try.zeroValue71
 t23 := Try.underlying71
 a23 := Try.isAgg71
 z23 := Try.sizeOf71
 v23 := Try.zeroValue71
 t25 := Try.underlying2
 a25 := Try.isAgg2
 z25 := Try.sizeOf2
 v25 := Try.zeroValue2
 t32 := Try.underlying178
 a32 := Try.isAgg178
 z32 := Try.sizeOf178
 v32 := Try.zeroValue178
 t35 := Try.underlying189
 a35 := Try.isAgg189
 z35 := Try.sizeOf189
 v35 := Try.zeroValue189
 t36 := Try.underlying190
 a36 := Try.isAgg190
 z36 := Try.sizeOf190
 v36 := Try.zeroValue190
 t41 := Try.underlying194
 a41 := Try.isAgg194
 z41 := Try.sizeOf194
 v41 := Try.zeroValue194
 t44 := Try.underlying184
 a44 := Try.isAgg184
 z44 := Try.sizeOf184
 v44 := Try.zeroValue184
 t46 := Try.underlying154
 a46 := Try.isAgg154
 z46 := Try.sizeOf154
 v46 := Try.zeroValue154
 t53 := Try.underlying204
 a53 := Try.isAgg204
 z53 := Try.sizeOf204
 v53 := Try.zeroValue204
 t57 := Try.underlying208
 a57 := Try.isAgg208
 z57 := Try.sizeOf208
 v57 := Try.zeroValue208
 t63 := Try.underlying212
 a63 := Try.isAgg212
 z63 := Try.sizeOf212
 v63 := Try.zeroValue212
 t64 := Try.underlying213
 a64 := Try.isAgg213
 z64 := Try.sizeOf213
 v64 := Try.zeroValue213 }
open Go.Sort Go.RowKit in
theorem Try.slices_Sort_int (blk off cap : Nat) (zs : List Int) (w : World) (hH : Holds (Value.int .i64) w blk off zs.toArray) (hblk : blk < w.heap.size) (hsz : zs.length < 4611686018427387904) :
  Calls Try.prog 126 #[.slice (some ⟨blk, off, none⟩) zs.length cap] w fun e w' =>
   e = .returned (.tuple #[]) ∧ ∃ n os, w' = grow (putRow (Value.int .i64) (Sort.ahead w n) blk off (zs.mergeSort fun x y => decide (x ≤ y)).toArray) os := AnyM.slices_Sort_int Try.laysSlM5_f126 blk off cap zs w hH hblk hsz
open Go.RowKit Go.Sort in
/-- .. and plain. (LAID AT THE INSTANCE 'slices.Sort[[]int64,int64]': no walk: one application.) -/
theorem Try.slices_Sort_int_none (p : Option Addr) (cap : Nat) (w : World) :
  Calls Try.prog 126 #[.slice p 0 cap] w fun e w' => e = .returned (.tuple #[]) ∧ w' = w := AnyM.slices_Sort_int_none Try.laysSlM5_f126 p cap w
def Try.laysSlF6_f130_ren : Go.Shelf.Ren := ⟨fun | 6 => 130 | 15 => 164 | 14 => 167 | 28 => 185 | 29 => 186 | 20 => 187 | 21 => 188 | 22 => 189 | 23 => 190 | 24 => 191 | 25 => 192 | 26 => 193 | 27 => 194 | 46 => 203 | 47 => 199 | 48 => 200 | 49 => 204 | 50 => 205 | 57 => 208 | n => n, fun | 22 => 94 | 24 => 71 | 25 => 153 | 3 => 3 | 39 => 178 | 0 => 0 | 53 => 184 | 55 => 154 | 4 => 4 | 46 => 190 | 45 => 189 | 50 => 194 | 5 => 5 | 9 => 9 | 66 => 204 | 70 => 208 | 76 => 212 | 77 => 213 | n => n, fun | n => n⟩
theorem Try.laysSlF6_f130 : Go.Proofs.SlLaysF.n6 Try.prog Try.laysSlF6_f130_ren := {
 mixed := by kernel_rfl
 f6 := ⟨Try.f130.name, by decide, Try.func130.trans (congrArg some (by kernel_rfl))⟩
 f14 := ⟨Try.f167.name, by decide, Try.func167.trans (congrArg some (by kernel_rfl))⟩
 f15 := Try.func164.trans (congrArg some (by kernel_rfl))
 f20 := ⟨Try.f187.name, by decide, Try.func187.trans (congrArg some (by kernel_rfl))⟩
 f21 := ⟨Try.f188.name, by decide, Try.func188.trans (congrArg some (by kernel_rfl))⟩
 f22 := ⟨Try.f189.name, by decide, Try.func189.trans (congrArg some (by kernel_rfl))⟩
 f23 := ⟨Try.f190.name, by decide, Try.func190.trans (congrArg some (by kernel_rfl))⟩
 f24 := ⟨Try.f191.name, by decide, Try.func191.trans (congrArg some (by kernel_rfl))⟩
 f25 := ⟨Try.f192.name, by decide, Try.func192.trans (congrArg some (by kernel_rfl))⟩
 f26 := ⟨Try.f193.name, by decide, Try.func193.trans (congrArg some (by kernel_rfl))⟩
 f27 := ⟨Try.f194.name, by decide, Try.func194.trans (congrArg some (by kernel_rfl))⟩
 f28 := Try.func185.trans (congrArg some (by kernel_rfl))
 f29 := Try.func186.trans (congrArg some (by kernel_rfl))
 f46 := ⟨Try.f203.name, by decide, Try.func203.trans (congrArg some (by kernel_rfl))⟩
 f47 := Try.func199.trans (congrArg some (by kernel_rfl))
 f48 := Try.func200.trans (congrArg some (by kernel_rfl))
 f49 := ⟨Try.f204.name, by decide, Try.func204.trans (congrArg some (by kernel_rfl))⟩
 f50 := ⟨Try.f205.name, by decide, Try.func205.trans (congrArg some (by kernel_rfl))⟩
 f57 := ⟨Try.f208.name, by decide, Try.func208.trans (congrArg some (by kernel_rfl))⟩
 t0 := Try.underlying0
 a0 := Try.isAgg0
 z0 := Try.sizeOf0
 v0 := Try.zeroValue0
 t3 := Try.underlying3
 a3 := Try.isAgg3
 z3 := Try.sizeOf3
 v3 := Try.zeroValue3
 t4 := Try.underlying4
 a4 := Try.isAgg4
 z4 := Try.sizeOf4
 v4 := Try.zeroValue4
 t5 := Try.underlying5
 a5 := Try.isAgg5
 z5 := Try.sizeOf5
 v5 := Try.zeroValue5
 t9 := Try.underlying9
 a9 := Try.isAgg9
 z9 := Try.sizeOf9
 v9 := Try.zeroValue9
 t22 := Try.underlying94
 a22 := Try.isAgg94
 z22 := Try.sizeOf94
 v22 := Try.zeroValue94
 a24 := Try.isAgg71
 z24 := Try.sizeOf71
 t25 := Try.underlying153
 a25 := Try.isAgg153
 z25 := Try.sizeOf153
 v25 := Try.zeroValue153
 t39 := Try.underlying178
 a39 := Try.isAgg178
 z39 := Try.sizeOf178
 v39 := Try.zeroValue178
 t45 := Try.underlying189
 a45 := Try.isAgg189
 z45 := Try.sizeOf189
 v45 := Try.zeroValue189
 t46 := Try.underlying190
 a46 := Try.isAgg190
 z46 := Try.sizeOf190
 v46 := Try.zeroValue190
 t50 := Try.underlying194
 a50 := Try.isAgg194
 z50 := Try.sizeOf194
 v50 := Try.zeroValue194
 t53 := Try.underlying184
 a53 := Try.isAgg184
 z53 := Try.sizeOf184
 v53 := Try.zeroValue184
 t55 := Try.underlying154
 a55 := Try.isAgg154
 z55 := Try.sizeOf154
 v55 := Try.zeroValue154
 t66 := Try.underlying204
 a66 := Try.isAgg204
 z66 := Try.sizeOf204
 v66 := Try.zeroValue204
 t70 := Try.underlying208
 a70 := Try.isAgg208
 z70 := Try.sizeOf208
 v70 := Try.zeroValue208
 t76 := Try.underlying212
 a76 := Try.isAgg212
 z76 := Try.sizeOf212
 v76 := Try.zeroValue212
 t77 := Try.underlying213
 a77 := Try.isAgg213
 z77 := Try.sizeOf213
 v77 := Try.zeroValue213 }
def Try.laysSlF06_f130_ren : Go.Shelf.Ren := ⟨fun | 6 => 130 | 15 => 164 | 14 => 167 | 28 => 185 | 29 => 186 | 20 => 187 | 21 => 188 | 22 => 189 | 23 => 190 | 24 => 191 | 25 => 192 | 26 => 193 | 27 => 194 | 46 => 203 | 47 => 199 | 48 => 200 | 49 => 204 | 50 => 205 | 57 => 208 | n => n, fun | 22 => 94 | 24 => 71 | 25 => 153 | 3 => 3 | 39 => 178 | 0 => 0 | 53 => 184 | 55 => 154 | 4 => 4 | 46 => 190 | 45 => 189 | 50 => 194 | 5 => 5 | 9 => 9 | 66 => 204 | 70 => 208 | 76 => 212 | 77 => 213 | n => n, fun | n => n⟩
theorem Try.laysSlF06_f130 : Go.Proofs.SlLaysF0.n6 Try.prog Try.laysSlF06_f130_ren := {
 mixed := by kernel_rfl
 f6 := ⟨Try.f130.name, by decide, Try.func130.trans (congrArg some (by kernel_rfl))⟩
 f14 := ⟨Try.f167.name, by decide, Try.func167.trans (congrArg some (by kernel_rfl))⟩
 f15 := Try.func164.trans (congrArg some (by kernel_rfl))
 f20 := ⟨Try.f187.name, by decide, Try.func187.trans (congrArg some (by kernel_rfl))⟩
 f21 := ⟨Try.f188.name, by decide, Try.func188.trans (congrArg some (by kernel_rfl))⟩
 f22 := ⟨Try.f189.name, by decide, Try.func189.trans (congrArg some (by kernel_rfl))⟩
 f23 := ⟨Try.f190.name, by decide, Try.func190.trans (congrArg some (by kernel_rfl))⟩
 f24 := ⟨Try.f191.name, by decide, Try.func191.trans (congrArg some (by kernel_rfl))⟩
 f25 := ⟨Try.f192.name, by decide, Try.func192.trans (congrArg some (by kernel_rfl))⟩
 f26 := ⟨Try.f193.name, by decide, Try.func193.trans (congrArg some (by kernel_rfl))⟩
 f27 := ⟨Try.f194.name, by decide, Try.func194.trans (congrArg some (by kernel_rfl))⟩
 f28 := Try.func185.trans (congrArg some (by kernel_rfl))
 f29 := Try.func186.trans (congrArg some (by kernel_rfl))
 f46 := ⟨Try.f203.name, by decide, Try.func203.trans (congrArg some (by kernel_rfl))⟩
 f47 := Try.func199.trans (congrArg some (by kernel_rfl))
 f48 := Try.func200.trans (congrArg some (by kernel_rfl))
 f49 := ⟨Try.f204.name, by decide, Try.func204.trans (congrArg some (by kernel_rfl))⟩
 f50 := ⟨Try.f205.name, by decide, Try.func205.trans (congrArg some (by kernel_rfl))⟩
 f57 := ⟨Try.f208.name, by decide, Try.func208.trans (congrArg some (by kernel_rfl))⟩
 t0 := Try.underlying0
 a0 := Try.isAgg0
 z0 := Try.sizeOf0
 v0 := Try.zeroValue0
 t3 := Try.underlying3
 a3 := Try.isAgg3
 z3 := Try.sizeOf3
 v3 := Try.zeroValue3
 t4 := Try.underlying4
 a4 := Try.isAgg4
 z4 := Try.sizeOf4
 v4 := Try.zeroValue4
 t5 := Try.underlying5
 a5 := Try.isAgg5
 z5 := Try.sizeOf5
 v5 := Try.zeroValue5
 t9 := Try.underlying9
 a9 := Try.isAgg9
 z9 := Try.sizeOf9
 v9 := Try.zeroValue9
 t22 := Try.underlying94
 a22 := Try.isAgg94
 z22 := Try.sizeOf94
 v22 := Try.zeroValue94
 t25 := Try.underlying153
 a25 := Try.isAgg153
 z25 := Try.sizeOf153
 v25 := Try.zeroValue153
 t39 := Try.underlying178
 a39 := Try.isAgg178
 z39 := Try.sizeOf178
 v39 := Try.zeroValue178
 t45 := Try.underlying189
 a45 := Try.isAgg189
 z45 := Try.sizeOf189
 v45 := Try.zeroValue189
 t46 := Try.underlying190
 a46 := Try.isAgg190
 z46 := Try.sizeOf190
 v46 := Try.zeroValue190
 t50 := Try.underlying194
 a50 := Try.isAgg194
 z50 := Try.sizeOf194
 v50 := Try.zeroValue194
 t53 := Try.underlying184
 a53 := Try.isAgg184
 z53 := Try.sizeOf184
 v53 := Try.zeroValue184
 t55 := Try.underlying154
 a55 := Try.isAgg154
 z55 := Try.sizeOf154
 v55 := Try.zeroValue154
 t66 := Try.underlying204
 a66 := Try.isAgg204
 z66 := Try.sizeOf204
 v66 := Try.zeroValue204
 t70 := Try.underlying208
 a70 := Try.isAgg208
 z70 := Try.sizeOf208
 v70 := Try.zeroValue208
 t76 := Try.underlying212
 a76 := Try.isAgg212
 z76 := Try.sizeOf212
 v76 := Try.zeroValue212
 t77 := Try.underlying213
 a77 := Try.isAgg213
 z77 := Try.sizeOf213
 v77 := Try.zeroValue213 }
open Go.RowKit Go.Lib Go.Sort in
/-- **slices.SortFunc AT NO ELEMENT, A nil SLICE TOO: nothing turns.** (LAID AT THE INSTANCE 'slices.SortFunc[[][]int64,[]int64]': no walk: one application.) -/
theorem Try.slices_SortFunc_none {α : Type} [Inhabited α] (p : Option Addr) (cap : Nat) (fv : Value) (w : World) :
  Calls Try.prog 130 #[.slice p 0 cap, fv] w fun e w' => e = .returned (.tuple #[]) ∧ w' = w := AnyF.slices_SortFunc_none Try.laysSlF06_f130 p cap fv w
open Go.RowKit Go.Lib Go.Sort in
/-- **slices.SortFunc AT ONE CELL, UNDER A 'cmp' THAT PARTS WHATEVER TWO THAT ARE NOT ONE: THE ROW HOLDS core's 'mergeSort'.** (LAID AT THE INSTANCE 'slices.SortFunc[[][]int64,[]int64]': no walk: one application.) -/
theorem Try.slices_SortFunc_total {α : Type} [Inhabited α] (enc : α → Value) (h1 : OneCell enc) (cf : α → α → Int) (hO : SWO (ltOf cf)) (g : Nat) (cb : Array Value) (blk off cap : Nat) (d : Array α) (w : World) (eg : ∀ args w, (callFunc g args).run Try.prog w = .ok (.enter g args) w) (hcmp : CmpLays1 Try.prog g cb enc cf blk off d.size w) (hH : Holds enc w blk off d) (hblk : blk < w.heap.size) (hsz : d.size < 4611686018427387904) (hT : ∀ x y, (ltOf cf) x y = false → (ltOf cf) y x = false → x = y) :
  Calls Try.prog 130 #[.slice (some ⟨blk, off, none⟩) d.size cap, .func (.func g) #[] cb] w fun e w' =>
   e = .returned (.tuple #[]) ∧ ∃ n os, w' = sortWorld enc w blk off n (d.toList.mergeSort fun x y => !(ltOf cf) y x).toArray os := Any.slices_SortFunc_total Try.laysSlF6_f130 enc h1 cf hO g cb blk off cap d w eg hcmp hH hblk hsz hT
end Go.Proofs
