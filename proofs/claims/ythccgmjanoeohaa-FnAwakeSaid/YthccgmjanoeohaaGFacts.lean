/- Functions of the program: what each computes, as a plain function, and that the call comes to it. Written by a program (wip/gen). -/
import Derived.Test.YthccgmjanoeohaaBase21
import Derived.Test.YthccgmjanoeohaaProg
import Derived.KernelRfl
set_option linter.unusedVariables false
namespace Go.H
open Go Go.Proofs

theorem _root_.Go.Proofs.Try.mixed : Try.prog.follows .mixedOrders = true := by kernel_rfl
theorem _root_.Go.Proofs.Try.agg24 : aggT Try.prog 24 = true := by kernel_rfl
theorem _root_.Go.Proofs.Try.agg28 : aggT Try.prog 28 = true := by kernel_rfl
theorem _root_.Go.Proofs.Try.agg31 : aggT Try.prog 31 = true := by kernel_rfl
theorem _root_.Go.Proofs.Try.agg38 : aggT Try.prog 38 = true := by kernel_rfl
theorem _root_.Go.Proofs.Try.agg48 : aggT Try.prog 48 = true := by kernel_rfl
theorem _root_.Go.Proofs.Try.agg50 : aggT Try.prog 50 = true := by kernel_rfl
theorem _root_.Go.Proofs.Try.bd28 : bldInfo Try.prog 28 = some ([(.slice none 0 0), (.slice none 0 0), (.slice none 0 0)], [(0, 1), (1, 1), (2, 1)]) := by kernel_rfl
theorem _root_.Go.Proofs.Try.bd31 : bldInfo Try.prog 31 = some ([(.int .i64 0), (.int .i64 0), (.bool false), (.slice none 0 0), (.slice none 0 0)], [(0, 1), (1, 1), (2, 1), (3, 1), (4, 1)]) := by kernel_rfl
theorem _root_.Go.Proofs.Try.bd50 : bldInfo Try.prog 50 = some ([(.int .i64 0), (.int .i64 0)], [(0, 1), (1, 1)]) := by kernel_rfl
theorem _root_.Go.Proofs.Try.einfo116 : elemInfo Try.prog 116 = some ((.complex .f32 0 0), 1, 8) := by kernel_rfl
theorem _root_.Go.Proofs.Try.einfo2 : elemInfo Try.prog 2 = some ((.int .i64 0), 1, 8) := by kernel_rfl
theorem _root_.Go.Proofs.Try.einfo25 : elemInfo Try.prog 25 = some ((.float .f32 0), 1, 4) := by kernel_rfl
theorem _root_.Go.Proofs.Try.einfo4 : elemInfo Try.prog 4 = some ((.bool false), 1, 1) := by kernel_rfl
theorem _root_.Go.Proofs.Try.einfo50 : elemInfo Try.prog 50 = some ((.agg [(.int .i64 0), (.int .i64 0)].toArray), 2, 16) := by kernel_rfl
theorem _root_.Go.Proofs.Try.fo174_0 : fieldOff Try.prog 174 0 = some 0 := by kernel_rfl
theorem _root_.Go.Proofs.Try.fo174_1 : fieldOff Try.prog 174 1 = some 1 := by kernel_rfl
theorem _root_.Go.Proofs.Try.fo174_2 : fieldOff Try.prog 174 2 = some 2 := by kernel_rfl
theorem _root_.Go.Proofs.Try.fo24_0 : fieldOff Try.prog 24 0 = some 0 := by kernel_rfl
theorem _root_.Go.Proofs.Try.fo24_1 : fieldOff Try.prog 24 1 = some 1 := by kernel_rfl
theorem _root_.Go.Proofs.Try.fo24_2 : fieldOff Try.prog 24 2 = some 2 := by kernel_rfl
theorem _root_.Go.Proofs.Try.fo24_3 : fieldOff Try.prog 24 3 = some 3 := by kernel_rfl
theorem _root_.Go.Proofs.Try.fo24_4 : fieldOff Try.prog 24 4 = some 4 := by kernel_rfl
theorem _root_.Go.Proofs.Try.fo28_0 : fieldOff Try.prog 28 0 = some 0 := by kernel_rfl
theorem _root_.Go.Proofs.Try.fo28_1 : fieldOff Try.prog 28 1 = some 1 := by kernel_rfl
theorem _root_.Go.Proofs.Try.fo28_2 : fieldOff Try.prog 28 2 = some 2 := by kernel_rfl
theorem _root_.Go.Proofs.Try.fo31_0 : fieldOff Try.prog 31 0 = some 0 := by kernel_rfl
theorem _root_.Go.Proofs.Try.fo31_1 : fieldOff Try.prog 31 1 = some 1 := by kernel_rfl
theorem _root_.Go.Proofs.Try.fo31_2 : fieldOff Try.prog 31 2 = some 2 := by kernel_rfl
theorem _root_.Go.Proofs.Try.fo31_3 : fieldOff Try.prog 31 3 = some 3 := by kernel_rfl
theorem _root_.Go.Proofs.Try.fo31_4 : fieldOff Try.prog 31 4 = some 4 := by kernel_rfl
theorem _root_.Go.Proofs.Try.fo38_0 : fieldOff Try.prog 38 0 = some 0 := by kernel_rfl
theorem _root_.Go.Proofs.Try.fo38_1 : fieldOff Try.prog 38 1 = some 1 := by kernel_rfl
theorem _root_.Go.Proofs.Try.fo38_2 : fieldOff Try.prog 38 2 = some 2 := by kernel_rfl
theorem _root_.Go.Proofs.Try.fo48_0 : fieldOff Try.prog 48 0 = some 0 := by kernel_rfl
theorem _root_.Go.Proofs.Try.fo48_1 : fieldOff Try.prog 48 1 = some 1 := by kernel_rfl
theorem _root_.Go.Proofs.Try.fo50_0 : fieldOff Try.prog 50 0 = some 0 := by kernel_rfl
theorem _root_.Go.Proofs.Try.fo50_1 : fieldOff Try.prog 50 1 = some 1 := by kernel_rfl
theorem _root_.Go.Proofs.Try.isinfo116 : (Try.prog.info? 116).isSome = true := by kernel_rfl
theorem _root_.Go.Proofs.Try.isinfo2 : (Try.prog.info? 2).isSome = true := by kernel_rfl
theorem _root_.Go.Proofs.Try.isinfo25 : (Try.prog.info? 25).isSome = true := by kernel_rfl
theorem _root_.Go.Proofs.Try.isinfo50 : (Try.prog.info? 50).isSome = true := by kernel_rfl
theorem _root_.Go.Proofs.Try.one116 : oneCellT Try.prog 116 = true := by kernel_rfl
theorem _root_.Go.Proofs.Try.one140 : oneCellT Try.prog 140 = true := by kernel_rfl
theorem _root_.Go.Proofs.Try.one172 : oneCellT Try.prog 172 = true := by kernel_rfl
theorem _root_.Go.Proofs.Try.one2 : oneCellT Try.prog 2 = true := by kernel_rfl
theorem _root_.Go.Proofs.Try.one205 : oneCellT Try.prog 205 = true := by kernel_rfl
theorem _root_.Go.Proofs.Try.one22 : oneCellT Try.prog 22 = true := by kernel_rfl
theorem _root_.Go.Proofs.Try.one25 : oneCellT Try.prog 25 = true := by kernel_rfl
theorem _root_.Go.Proofs.Try.one3 : oneCellT Try.prog 3 = true := by kernel_rfl
theorem _root_.Go.Proofs.Try.one4 : oneCellT Try.prog 4 = true := by kernel_rfl
theorem _root_.Go.Proofs.Try.one5 : oneCellT Try.prog 5 = true := by kernel_rfl
theorem _root_.Go.Proofs.Try.one76 : oneCellT Try.prog 76 = true := by kernel_rfl
theorem _root_.Go.Proofs.Try.size116 : (Try.prog.info? 116).map (·.size) = some 1 := by kernel_rfl
theorem _root_.Go.Proofs.Try.size140 : (Try.prog.info? 140).map (·.size) = some 1 := by kernel_rfl
theorem _root_.Go.Proofs.Try.size172 : (Try.prog.info? 172).map (·.size) = some 1 := by kernel_rfl
theorem _root_.Go.Proofs.Try.size2 : (Try.prog.info? 2).map (·.size) = some 1 := by kernel_rfl
theorem _root_.Go.Proofs.Try.size205 : (Try.prog.info? 205).map (·.size) = some 1 := by kernel_rfl
theorem _root_.Go.Proofs.Try.size22 : (Try.prog.info? 22).map (·.size) = some 1 := by kernel_rfl
theorem _root_.Go.Proofs.Try.size24 : (Try.prog.info? 24).map (·.size) = some 5 := by kernel_rfl
theorem _root_.Go.Proofs.Try.size25 : (Try.prog.info? 25).map (·.size) = some 1 := by kernel_rfl
theorem _root_.Go.Proofs.Try.size28 : (Try.prog.info? 28).map (·.size) = some 3 := by kernel_rfl
theorem _root_.Go.Proofs.Try.size3 : (Try.prog.info? 3).map (·.size) = some 1 := by kernel_rfl
theorem _root_.Go.Proofs.Try.size31 : (Try.prog.info? 31).map (·.size) = some 5 := by kernel_rfl
theorem _root_.Go.Proofs.Try.size38 : (Try.prog.info? 38).map (·.size) = some 3 := by kernel_rfl
theorem _root_.Go.Proofs.Try.size4 : (Try.prog.info? 4).map (·.size) = some 1 := by kernel_rfl
theorem _root_.Go.Proofs.Try.size48 : (Try.prog.info? 48).map (·.size) = some 2 := by kernel_rfl
theorem _root_.Go.Proofs.Try.size5 : (Try.prog.info? 5).map (·.size) = some 1 := by kernel_rfl
theorem _root_.Go.Proofs.Try.size50 : (Try.prog.info? 50).map (·.size) = some 2 := by kernel_rfl
theorem _root_.Go.Proofs.Try.zero140 : (Try.prog.info? 140).bind (·.zero) = some (.map none) := by kernel_rfl
theorem _root_.Go.Proofs.Try.zero2 : (Try.prog.info? 2).bind (·.zero) = some (.int .i64 0) := by kernel_rfl
theorem _root_.Go.Proofs.Try.zero205 : (Try.prog.info? 205).bind (·.zero) = some (.int .u64 0) := by kernel_rfl
theorem _root_.Go.Proofs.Try.zero28 : (Try.prog.info? 28).bind (·.zero) = some (.agg [(.slice none 0 0), (.slice none 0 0), (.slice none 0 0)].toArray) := by kernel_rfl
theorem _root_.Go.Proofs.Try.zero3 : (Try.prog.info? 3).bind (·.zero) = some (.int .i64 0) := by kernel_rfl
theorem _root_.Go.Proofs.Try.zero31 : (Try.prog.info? 31).bind (·.zero) = some (.agg [(.int .i64 0), (.int .i64 0), (.bool false), (.slice none 0 0), (.slice none 0 0)].toArray) := by kernel_rfl
theorem _root_.Go.Proofs.Try.zero4 : (Try.prog.info? 4).bind (·.zero) = some (.bool false) := by kernel_rfl
theorem _root_.Go.Proofs.Try.zero50 : (Try.prog.info? 50).bind (·.zero) = some (.agg [(.int .i64 0), (.int .i64 0)].toArray) := by kernel_rfl



end Go.H
