/- Functions of the program: what each computes, as a plain function, and that the call comes to it. Written by a program (wip/gen). -/
import Derived.Test.YtjlnfficehomhaaDoorBase28
import Derived.Test.YtjlnfficehomhaaDoorProg
import Derived.KernelRfl
set_option linter.unusedVariables false
namespace Go.H
open Go Go.Proofs

theorem _root_.Go.Proofs.Tryd.mixed : Tryd.prog.follows .mixedOrders = true := by kernel_rfl
theorem _root_.Go.Proofs.Tryd.agg24 : aggT Tryd.prog 24 = true := by kernel_rfl
theorem _root_.Go.Proofs.Tryd.agg26 : aggT Tryd.prog 26 = true := by kernel_rfl
theorem _root_.Go.Proofs.Tryd.agg32 : aggT Tryd.prog 32 = true := by kernel_rfl
theorem _root_.Go.Proofs.Tryd.agg34 : aggT Tryd.prog 34 = true := by kernel_rfl
theorem _root_.Go.Proofs.Tryd.agg51 : aggT Tryd.prog 51 = true := by kernel_rfl
theorem _root_.Go.Proofs.Tryd.bd51 : bldInfo Tryd.prog 51 = some ([(.int .i64 0), (.int .i64 0)], [(0, 1), (1, 1)]) := by kernel_rfl
theorem _root_.Go.Proofs.Tryd.einfo2 : elemInfo Tryd.prog 2 = some ((.int .i64 0), 1, 8) := by kernel_rfl
theorem _root_.Go.Proofs.Tryd.einfo5 : elemInfo Tryd.prog 5 = some ((.int .u8 0), 1, 1) := by kernel_rfl
theorem _root_.Go.Proofs.Tryd.einfo51 : elemInfo Tryd.prog 51 = some ((.agg [(.int .i64 0), (.int .i64 0)].toArray), 2, 16) := by kernel_rfl
theorem _root_.Go.Proofs.Tryd.einfo65 : elemInfo Tryd.prog 65 = some ((.float .f32 0), 1, 4) := by kernel_rfl
theorem _root_.Go.Proofs.Tryd.fo24_0 : fieldOff Tryd.prog 24 0 = some 0 := by kernel_rfl
theorem _root_.Go.Proofs.Tryd.fo24_1 : fieldOff Tryd.prog 24 1 = some 1 := by kernel_rfl
theorem _root_.Go.Proofs.Tryd.fo24_2 : fieldOff Tryd.prog 24 2 = some 2 := by kernel_rfl
theorem _root_.Go.Proofs.Tryd.fo24_3 : fieldOff Tryd.prog 24 3 = some 3 := by kernel_rfl
theorem _root_.Go.Proofs.Tryd.fo24_4 : fieldOff Tryd.prog 24 4 = some 4 := by kernel_rfl
theorem _root_.Go.Proofs.Tryd.fo26_0 : fieldOff Tryd.prog 26 0 = some 0 := by kernel_rfl
theorem _root_.Go.Proofs.Tryd.fo26_1 : fieldOff Tryd.prog 26 1 = some 1 := by kernel_rfl
theorem _root_.Go.Proofs.Tryd.fo26_2 : fieldOff Tryd.prog 26 2 = some 2 := by kernel_rfl
theorem _root_.Go.Proofs.Tryd.fo32_0 : fieldOff Tryd.prog 32 0 = some 0 := by kernel_rfl
theorem _root_.Go.Proofs.Tryd.fo32_1 : fieldOff Tryd.prog 32 1 = some 1 := by kernel_rfl
theorem _root_.Go.Proofs.Tryd.fo32_2 : fieldOff Tryd.prog 32 2 = some 2 := by kernel_rfl
theorem _root_.Go.Proofs.Tryd.fo32_3 : fieldOff Tryd.prog 32 3 = some 3 := by kernel_rfl
theorem _root_.Go.Proofs.Tryd.fo32_4 : fieldOff Tryd.prog 32 4 = some 4 := by kernel_rfl
theorem _root_.Go.Proofs.Tryd.fo34_0 : fieldOff Tryd.prog 34 0 = some 0 := by kernel_rfl
theorem _root_.Go.Proofs.Tryd.fo34_1 : fieldOff Tryd.prog 34 1 = some 1 := by kernel_rfl
theorem _root_.Go.Proofs.Tryd.fo34_2 : fieldOff Tryd.prog 34 2 = some 2 := by kernel_rfl
theorem _root_.Go.Proofs.Tryd.fo51_0 : fieldOff Tryd.prog 51 0 = some 0 := by kernel_rfl
theorem _root_.Go.Proofs.Tryd.fo51_1 : fieldOff Tryd.prog 51 1 = some 1 := by kernel_rfl
theorem _root_.Go.Proofs.Tryd.isinfo2 : (Tryd.prog.info? 2).isSome = true := by kernel_rfl
theorem _root_.Go.Proofs.Tryd.isinfo5 : (Tryd.prog.info? 5).isSome = true := by kernel_rfl
theorem _root_.Go.Proofs.Tryd.isinfo51 : (Tryd.prog.info? 51).isSome = true := by kernel_rfl
theorem _root_.Go.Proofs.Tryd.isinfo9 : (Tryd.prog.info? 9).isSome = true := by kernel_rfl
theorem _root_.Go.Proofs.Tryd.one2 : oneCellT Tryd.prog 2 = true := by kernel_rfl
theorem _root_.Go.Proofs.Tryd.one22 : oneCellT Tryd.prog 22 = true := by kernel_rfl
theorem _root_.Go.Proofs.Tryd.one4 : oneCellT Tryd.prog 4 = true := by kernel_rfl
theorem _root_.Go.Proofs.Tryd.one65 : oneCellT Tryd.prog 65 = true := by kernel_rfl
theorem _root_.Go.Proofs.Tryd.one9 : oneCellT Tryd.prog 9 = true := by kernel_rfl
theorem _root_.Go.Proofs.Tryd.size2 : (Tryd.prog.info? 2).map (·.size) = some 1 := by kernel_rfl
theorem _root_.Go.Proofs.Tryd.size22 : (Tryd.prog.info? 22).map (·.size) = some 1 := by kernel_rfl
theorem _root_.Go.Proofs.Tryd.size24 : (Tryd.prog.info? 24).map (·.size) = some 5 := by kernel_rfl
theorem _root_.Go.Proofs.Tryd.size26 : (Tryd.prog.info? 26).map (·.size) = some 3 := by kernel_rfl
theorem _root_.Go.Proofs.Tryd.size32 : (Tryd.prog.info? 32).map (·.size) = some 5 := by kernel_rfl
theorem _root_.Go.Proofs.Tryd.size34 : (Tryd.prog.info? 34).map (·.size) = some 3 := by kernel_rfl
theorem _root_.Go.Proofs.Tryd.size4 : (Tryd.prog.info? 4).map (·.size) = some 1 := by kernel_rfl
theorem _root_.Go.Proofs.Tryd.size5 : (Tryd.prog.info? 5).map (·.size) = some 1 := by kernel_rfl
theorem _root_.Go.Proofs.Tryd.size51 : (Tryd.prog.info? 51).map (·.size) = some 2 := by kernel_rfl
theorem _root_.Go.Proofs.Tryd.size65 : (Tryd.prog.info? 65).map (·.size) = some 1 := by kernel_rfl
theorem _root_.Go.Proofs.Tryd.size9 : (Tryd.prog.info? 9).map (·.size) = some 1 := by kernel_rfl
theorem _root_.Go.Proofs.Tryd.zero32 : (Tryd.prog.info? 32).bind (·.zero) = some (.agg [(.int .i64 0), (.int .i64 0), (.bool false), (.slice none 0 0), (.slice none 0 0)].toArray) := by kernel_rfl
theorem _root_.Go.Proofs.Tryd.zero34 : (Tryd.prog.info? 34).bind (·.zero) = some (.agg [(.slice none 0 0), (.slice none 0 0), (.slice none 0 0)].toArray) := by kernel_rfl
theorem _root_.Go.Proofs.Tryd.zero51 : (Tryd.prog.info? 51).bind (·.zero) = some (.agg [(.int .i64 0), (.int .i64 0)].toArray) := by kernel_rfl



end Go.H
