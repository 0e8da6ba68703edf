/- Functions of the program: what each computes, as a plain function, and that the call comes to it. Written by a program (wip/gen). -/
import Derived.Test.YtjlnfficehomhaaGreatDoorLibB
import Derived.Test.YtjlnfficehomhaaGreatDoorProg
import Derived.KernelRfl
set_option linter.unusedVariables false
namespace Go.H
open Go Go.Proofs

theorem _root_.Go.Proofs.Tryz.mixed : Tryz.prog.follows .mixedOrders = true := by kernel_rfl
theorem _root_.Go.Proofs.Tryz.agg26 : aggT Tryz.prog 26 = true := by kernel_rfl
theorem _root_.Go.Proofs.Tryz.agg29 : aggT Tryz.prog 29 = true := by kernel_rfl
theorem _root_.Go.Proofs.Tryz.agg43 : aggT Tryz.prog 43 = true := by kernel_rfl
theorem _root_.Go.Proofs.Tryz.bd26 : bldInfo Tryz.prog 26 = some ([(.int .i64 0), (.int .i64 0), (.bool false), (.slice none 0 0), (.slice none 0 0)], [(0, 1), (1, 1), (2, 1), (3, 1), (4, 1)]) := by kernel_rfl
theorem _root_.Go.Proofs.Tryz.bd29 : bldInfo Tryz.prog 29 = some ([(.slice none 0 0), (.slice none 0 0), (.slice none 0 0)], [(0, 1), (1, 1), (2, 1)]) := by kernel_rfl
theorem _root_.Go.Proofs.Tryz.bd43 : bldInfo Tryz.prog 43 = some ([(.int .i64 0), (.int .i64 0)], [(0, 1), (1, 1)]) := by kernel_rfl
theorem _root_.Go.Proofs.Tryz.bd72 : bldInfo Tryz.prog 72 = some ([(.slice none 0 0), (.int .i64 0), (.int .u64 0)], [(0, 1), (1, 1), (2, 1)]) := by kernel_rfl
theorem _root_.Go.Proofs.Tryz.einfo2 : elemInfo Tryz.prog 2 = some ((.int .i64 0), 1, 8) := by kernel_rfl
theorem _root_.Go.Proofs.Tryz.einfo43 : elemInfo Tryz.prog 43 = some ((.agg [(.int .i64 0), (.int .i64 0)].toArray), 2, 16) := by kernel_rfl
theorem _root_.Go.Proofs.Tryz.einfo66 : elemInfo Tryz.prog 66 = some ((.float .f32 0), 1, 4) := by kernel_rfl
theorem _root_.Go.Proofs.Tryz.fo26_0 : fieldOff Tryz.prog 26 0 = some 0 := by kernel_rfl
theorem _root_.Go.Proofs.Tryz.fo26_1 : fieldOff Tryz.prog 26 1 = some 1 := by kernel_rfl
theorem _root_.Go.Proofs.Tryz.fo26_2 : fieldOff Tryz.prog 26 2 = some 2 := by kernel_rfl
theorem _root_.Go.Proofs.Tryz.fo26_3 : fieldOff Tryz.prog 26 3 = some 3 := by kernel_rfl
theorem _root_.Go.Proofs.Tryz.fo26_4 : fieldOff Tryz.prog 26 4 = some 4 := by kernel_rfl
theorem _root_.Go.Proofs.Tryz.fo29_0 : fieldOff Tryz.prog 29 0 = some 0 := by kernel_rfl
theorem _root_.Go.Proofs.Tryz.fo29_1 : fieldOff Tryz.prog 29 1 = some 1 := by kernel_rfl
theorem _root_.Go.Proofs.Tryz.fo29_2 : fieldOff Tryz.prog 29 2 = some 2 := by kernel_rfl
theorem _root_.Go.Proofs.Tryz.fo43_0 : fieldOff Tryz.prog 43 0 = some 0 := by kernel_rfl
theorem _root_.Go.Proofs.Tryz.fo43_1 : fieldOff Tryz.prog 43 1 = some 1 := by kernel_rfl
theorem _root_.Go.Proofs.Tryz.fo72_0 : fieldOff Tryz.prog 72 0 = some 0 := by kernel_rfl
theorem _root_.Go.Proofs.Tryz.fo72_1 : fieldOff Tryz.prog 72 1 = some 1 := by kernel_rfl
theorem _root_.Go.Proofs.Tryz.fo72_2 : fieldOff Tryz.prog 72 2 = some 2 := by kernel_rfl
theorem _root_.Go.Proofs.Tryz.isinfo2 : (Tryz.prog.info? 2).isSome = true := by kernel_rfl
theorem _root_.Go.Proofs.Tryz.isinfo38 : (Tryz.prog.info? 38).isSome = true := by kernel_rfl
theorem _root_.Go.Proofs.Tryz.isinfo43 : (Tryz.prog.info? 43).isSome = true := by kernel_rfl
theorem _root_.Go.Proofs.Tryz.isinfo66 : (Tryz.prog.info? 66).isSome = true := by kernel_rfl
theorem _root_.Go.Proofs.Tryz.isinfo9 : (Tryz.prog.info? 9).isSome = true := by kernel_rfl
theorem _root_.Go.Proofs.Tryz.one126 : oneCellT Tryz.prog 126 = true := by kernel_rfl
theorem _root_.Go.Proofs.Tryz.one2 : oneCellT Tryz.prog 2 = true := by kernel_rfl
theorem _root_.Go.Proofs.Tryz.one22 : oneCellT Tryz.prog 22 = true := by kernel_rfl
theorem _root_.Go.Proofs.Tryz.one24 : oneCellT Tryz.prog 24 = true := by kernel_rfl
theorem _root_.Go.Proofs.Tryz.one3 : oneCellT Tryz.prog 3 = true := by kernel_rfl
theorem _root_.Go.Proofs.Tryz.one4 : oneCellT Tryz.prog 4 = true := by kernel_rfl
theorem _root_.Go.Proofs.Tryz.one5 : oneCellT Tryz.prog 5 = true := by kernel_rfl
theorem _root_.Go.Proofs.Tryz.one66 : oneCellT Tryz.prog 66 = true := by kernel_rfl
theorem _root_.Go.Proofs.Tryz.one70 : oneCellT Tryz.prog 70 = true := by kernel_rfl
theorem _root_.Go.Proofs.Tryz.one9 : oneCellT Tryz.prog 9 = true := by kernel_rfl
theorem _root_.Go.Proofs.Tryz.size126 : (Tryz.prog.info? 126).map (·.size) = some 1 := by kernel_rfl
theorem _root_.Go.Proofs.Tryz.size2 : (Tryz.prog.info? 2).map (·.size) = some 1 := by kernel_rfl
theorem _root_.Go.Proofs.Tryz.size24 : (Tryz.prog.info? 24).map (·.size) = some 1 := by kernel_rfl
theorem _root_.Go.Proofs.Tryz.size26 : (Tryz.prog.info? 26).map (·.size) = some 5 := by kernel_rfl
theorem _root_.Go.Proofs.Tryz.size29 : (Tryz.prog.info? 29).map (·.size) = some 3 := by kernel_rfl
theorem _root_.Go.Proofs.Tryz.size3 : (Tryz.prog.info? 3).map (·.size) = some 1 := by kernel_rfl
theorem _root_.Go.Proofs.Tryz.size43 : (Tryz.prog.info? 43).map (·.size) = some 2 := by kernel_rfl
theorem _root_.Go.Proofs.Tryz.size5 : (Tryz.prog.info? 5).map (·.size) = some 1 := by kernel_rfl
theorem _root_.Go.Proofs.Tryz.size66 : (Tryz.prog.info? 66).map (·.size) = some 1 := by kernel_rfl
theorem _root_.Go.Proofs.Tryz.size70 : (Tryz.prog.info? 70).map (·.size) = some 1 := by kernel_rfl
theorem _root_.Go.Proofs.Tryz.size9 : (Tryz.prog.info? 9).map (·.size) = some 1 := by kernel_rfl
theorem _root_.Go.Proofs.Tryz.zero126 : (Tryz.prog.info? 126).bind (·.zero) = some (.int .u64 0) := by kernel_rfl
theorem _root_.Go.Proofs.Tryz.zero26 : (Tryz.prog.info? 26).bind (·.zero) = some (.agg [(.int .i64 0), (.int .i64 0), (.bool false), (.slice none 0 0), (.slice none 0 0)].toArray) := by kernel_rfl
theorem _root_.Go.Proofs.Tryz.zero29 : (Tryz.prog.info? 29).bind (·.zero) = some (.agg [(.slice none 0 0), (.slice none 0 0), (.slice none 0 0)].toArray) := by kernel_rfl
theorem _root_.Go.Proofs.Tryz.zero3 : (Tryz.prog.info? 3).bind (·.zero) = some (.int .i64 0) := by kernel_rfl
theorem _root_.Go.Proofs.Tryz.zero43 : (Tryz.prog.info? 43).bind (·.zero) = some (.agg [(.int .i64 0), (.int .i64 0)].toArray) := by kernel_rfl



end Go.H
