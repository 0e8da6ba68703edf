/- Functions of the program: what each computes, as a plain function, and that the call comes to it. Written by a program (wip/gen). -/
import Derived.Test.YtmgoblppedmdhaaLibB
import Derived.Test.YtmgoblppedmdhaaProg
import Derived.KernelRfl
set_option linter.unusedVariables false
namespace Go.H
open Go Go.Proofs

theorem _root_.Go.Proofs.Try.mixed : Try.prog.follows .mixedOrders = true := by kernel_rfl
theorem _root_.Go.Proofs.Try.agg33 : aggT Try.prog 33 = true := by kernel_rfl
theorem _root_.Go.Proofs.Try.agg37 : aggT Try.prog 37 = true := by kernel_rfl
theorem _root_.Go.Proofs.Try.agg47 : aggT Try.prog 47 = true := by kernel_rfl
theorem _root_.Go.Proofs.Try.agg78 : aggT Try.prog 78 = true := by kernel_rfl
theorem _root_.Go.Proofs.Try.agg80 : aggT Try.prog 80 = true := by kernel_rfl
theorem _root_.Go.Proofs.Try.agg84 : aggT Try.prog 84 = true := by kernel_rfl
theorem _root_.Go.Proofs.Try.bd156 : bldInfo Try.prog 156 = some ([(.slice none 0 0), (.int .i64 0), (.int .u64 0)], [(0, 1), (1, 1), (2, 1)]) := by kernel_rfl
theorem _root_.Go.Proofs.Try.bd33 : bldInfo Try.prog 33 = some ([(.int .i64 0), (.int .i64 0), (.bool false), (.slice none 0 0), (.slice none 0 0)], [(0, 1), (1, 1), (2, 1), (3, 1), (4, 1)]) := by kernel_rfl
theorem _root_.Go.Proofs.Try.bd37 : bldInfo Try.prog 37 = some ([(.slice none 0 0), (.slice none 0 0), (.slice none 0 0)], [(0, 1), (1, 1), (2, 1)]) := by kernel_rfl
theorem _root_.Go.Proofs.Try.bd47 : bldInfo Try.prog 47 = some ([(.float .f32 0), (.int .i64 0), (.complex .f32 0 0)], [(0, 1), (1, 1), (2, 1)]) := by kernel_rfl
theorem _root_.Go.Proofs.Try.bd84 : bldInfo Try.prog 84 = some ([(.int .i64 0), (.int .i64 0)], [(0, 1), (1, 1)]) := by kernel_rfl
theorem _root_.Go.Proofs.Try.einfo2 : elemInfo Try.prog 2 = some ((.int .i64 0), 1, 8) := by kernel_rfl
theorem _root_.Go.Proofs.Try.einfo29 : elemInfo Try.prog 29 = some ((.float .f32 0), 1, 4) := by kernel_rfl
theorem _root_.Go.Proofs.Try.einfo45 : elemInfo Try.prog 45 = some ((.complex .f32 0 0), 1, 8) := by kernel_rfl
theorem _root_.Go.Proofs.Try.einfo84 : elemInfo Try.prog 84 = some ((.agg [(.int .i64 0), (.int .i64 0)].toArray), 2, 16) := by kernel_rfl
theorem _root_.Go.Proofs.Try.fi37_0 : fieldAt Try.prog 37 0 = some (0, 25) := by kernel_rfl
theorem _root_.Go.Proofs.Try.fo156_0 : fieldOff Try.prog 156 0 = some 0 := by kernel_rfl
theorem _root_.Go.Proofs.Try.fo156_1 : fieldOff Try.prog 156 1 = some 1 := by kernel_rfl
theorem _root_.Go.Proofs.Try.fo156_2 : fieldOff Try.prog 156 2 = some 2 := by kernel_rfl
theorem _root_.Go.Proofs.Try.fo33_0 : fieldOff Try.prog 33 0 = some 0 := by kernel_rfl
theorem _root_.Go.Proofs.Try.fo33_1 : fieldOff Try.prog 33 1 = some 1 := by kernel_rfl
theorem _root_.Go.Proofs.Try.fo33_2 : fieldOff Try.prog 33 2 = some 2 := by kernel_rfl
theorem _root_.Go.Proofs.Try.fo33_3 : fieldOff Try.prog 33 3 = some 3 := by kernel_rfl
theorem _root_.Go.Proofs.Try.fo33_4 : fieldOff Try.prog 33 4 = some 4 := by kernel_rfl
theorem _root_.Go.Proofs.Try.fo37_0 : fieldOff Try.prog 37 0 = some 0 := by kernel_rfl
theorem _root_.Go.Proofs.Try.fo37_1 : fieldOff Try.prog 37 1 = some 1 := by kernel_rfl
theorem _root_.Go.Proofs.Try.fo37_2 : fieldOff Try.prog 37 2 = some 2 := by kernel_rfl
theorem _root_.Go.Proofs.Try.fo47_0 : fieldOff Try.prog 47 0 = some 0 := by kernel_rfl
theorem _root_.Go.Proofs.Try.fo47_1 : fieldOff Try.prog 47 1 = some 1 := by kernel_rfl
theorem _root_.Go.Proofs.Try.fo47_2 : fieldOff Try.prog 47 2 = some 2 := by kernel_rfl
theorem _root_.Go.Proofs.Try.fo78_0 : fieldOff Try.prog 78 0 = some 0 := by kernel_rfl
theorem _root_.Go.Proofs.Try.fo78_1 : fieldOff Try.prog 78 1 = some 1 := by kernel_rfl
theorem _root_.Go.Proofs.Try.fo78_2 : fieldOff Try.prog 78 2 = some 2 := by kernel_rfl
theorem _root_.Go.Proofs.Try.fo78_3 : fieldOff Try.prog 78 3 = some 3 := by kernel_rfl
theorem _root_.Go.Proofs.Try.fo78_4 : fieldOff Try.prog 78 4 = some 4 := by kernel_rfl
theorem _root_.Go.Proofs.Try.fo80_0 : fieldOff Try.prog 80 0 = some 0 := by kernel_rfl
theorem _root_.Go.Proofs.Try.fo80_1 : fieldOff Try.prog 80 1 = some 1 := by kernel_rfl
theorem _root_.Go.Proofs.Try.fo84_0 : fieldOff Try.prog 84 0 = some 0 := by kernel_rfl
theorem _root_.Go.Proofs.Try.fo84_1 : fieldOff Try.prog 84 1 = some 1 := by kernel_rfl
theorem _root_.Go.Proofs.Try.isinfo2 : (Try.prog.info? 2).isSome = true := by kernel_rfl
theorem _root_.Go.Proofs.Try.isinfo29 : (Try.prog.info? 29).isSome = true := by kernel_rfl
theorem _root_.Go.Proofs.Try.isinfo45 : (Try.prog.info? 45).isSome = true := by kernel_rfl
theorem _root_.Go.Proofs.Try.isinfo84 : (Try.prog.info? 84).isSome = true := by kernel_rfl
theorem _root_.Go.Proofs.Try.one134 : oneCellT Try.prog 134 = true := by kernel_rfl
theorem _root_.Go.Proofs.Try.one154 : oneCellT Try.prog 154 = true := by kernel_rfl
theorem _root_.Go.Proofs.Try.one2 : oneCellT Try.prog 2 = true := by kernel_rfl
theorem _root_.Go.Proofs.Try.one204 : oneCellT Try.prog 204 = true := by kernel_rfl
theorem _root_.Go.Proofs.Try.one22 : oneCellT Try.prog 22 = true := by kernel_rfl
theorem _root_.Go.Proofs.Try.one25 : oneCellT Try.prog 25 = true := by kernel_rfl
theorem _root_.Go.Proofs.Try.one29 : oneCellT Try.prog 29 = true := by kernel_rfl
theorem _root_.Go.Proofs.Try.one3 : oneCellT Try.prog 3 = true := by kernel_rfl
theorem _root_.Go.Proofs.Try.one4 : oneCellT Try.prog 4 = true := by kernel_rfl
theorem _root_.Go.Proofs.Try.one45 : oneCellT Try.prog 45 = true := by kernel_rfl
theorem _root_.Go.Proofs.Try.one5 : oneCellT Try.prog 5 = true := by kernel_rfl
theorem _root_.Go.Proofs.Try.size134 : (Try.prog.info? 134).map (·.size) = some 1 := by kernel_rfl
theorem _root_.Go.Proofs.Try.size154 : (Try.prog.info? 154).map (·.size) = some 1 := by kernel_rfl
theorem _root_.Go.Proofs.Try.size2 : (Try.prog.info? 2).map (·.size) = some 1 := by kernel_rfl
theorem _root_.Go.Proofs.Try.size204 : (Try.prog.info? 204).map (·.size) = some 1 := by kernel_rfl
theorem _root_.Go.Proofs.Try.size25 : (Try.prog.info? 25).map (·.size) = some 1 := by kernel_rfl
theorem _root_.Go.Proofs.Try.size29 : (Try.prog.info? 29).map (·.size) = some 1 := by kernel_rfl
theorem _root_.Go.Proofs.Try.size3 : (Try.prog.info? 3).map (·.size) = some 1 := by kernel_rfl
theorem _root_.Go.Proofs.Try.size33 : (Try.prog.info? 33).map (·.size) = some 5 := by kernel_rfl
theorem _root_.Go.Proofs.Try.size37 : (Try.prog.info? 37).map (·.size) = some 3 := by kernel_rfl
theorem _root_.Go.Proofs.Try.size4 : (Try.prog.info? 4).map (·.size) = some 1 := by kernel_rfl
theorem _root_.Go.Proofs.Try.size45 : (Try.prog.info? 45).map (·.size) = some 1 := by kernel_rfl
theorem _root_.Go.Proofs.Try.size47 : (Try.prog.info? 47).map (·.size) = some 3 := by kernel_rfl
theorem _root_.Go.Proofs.Try.size5 : (Try.prog.info? 5).map (·.size) = some 1 := by kernel_rfl
theorem _root_.Go.Proofs.Try.size78 : (Try.prog.info? 78).map (·.size) = some 5 := by kernel_rfl
theorem _root_.Go.Proofs.Try.size80 : (Try.prog.info? 80).map (·.size) = some 2 := by kernel_rfl
theorem _root_.Go.Proofs.Try.size84 : (Try.prog.info? 84).map (·.size) = some 2 := by kernel_rfl
theorem _root_.Go.Proofs.Try.zero134 : (Try.prog.info? 134).bind (·.zero) = some (.map none) := by kernel_rfl
theorem _root_.Go.Proofs.Try.zero204 : (Try.prog.info? 204).bind (·.zero) = some (.int .u64 0) := by kernel_rfl
theorem _root_.Go.Proofs.Try.zero25 : (Try.prog.info? 25).bind (·.zero) = some (.slice none 0 0) := by kernel_rfl
theorem _root_.Go.Proofs.Try.zero3 : (Try.prog.info? 3).bind (·.zero) = some (.int .i64 0) := by kernel_rfl
theorem _root_.Go.Proofs.Try.zero33 : (Try.prog.info? 33).bind (·.zero) = some (.agg [(.int .i64 0), (.int .i64 0), (.bool false), (.slice none 0 0), (.slice none 0 0)].toArray) := by kernel_rfl
theorem _root_.Go.Proofs.Try.zero37 : (Try.prog.info? 37).bind (·.zero) = some (.agg [(.slice none 0 0), (.slice none 0 0), (.slice none 0 0)].toArray) := by kernel_rfl
theorem _root_.Go.Proofs.Try.zero4 : (Try.prog.info? 4).bind (·.zero) = some (.bool false) := by kernel_rfl
theorem _root_.Go.Proofs.Try.zero47 : (Try.prog.info? 47).bind (·.zero) = some (.agg [(.float .f32 0), (.int .i64 0), (.complex .f32 0 0)].toArray) := by kernel_rfl
theorem _root_.Go.Proofs.Try.zero84 : (Try.prog.info? 84).bind (·.zero) = some (.agg [(.int .i64 0), (.int .i64 0)].toArray) := by kernel_rfl



end Go.H
