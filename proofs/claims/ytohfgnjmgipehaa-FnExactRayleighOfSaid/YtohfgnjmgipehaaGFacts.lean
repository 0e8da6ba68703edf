/- Functions of the program: what each computes, as a plain function, and that the call comes to it. Written by a program (wip/gen). -/
import Derived.Test.YtohfgnjmgipehaaBase16
import Derived.Test.YtohfgnjmgipehaaProg
import Derived.KernelRfl
set_option linter.unusedVariables false
namespace Go.H
open Go Go.Proofs

theorem _root_.Go.Proofs.Try.mixed : Try.prog.follows .mixedOrders = true := by kernel_rfl
theorem _root_.Go.Proofs.Try.agg24 : aggT Try.prog 24 = true := by kernel_rfl
theorem _root_.Go.Proofs.Try.agg26 : aggT Try.prog 26 = true := by kernel_rfl
theorem _root_.Go.Proofs.Try.agg29 : aggT Try.prog 29 = true := by kernel_rfl
theorem _root_.Go.Proofs.Try.agg31 : aggT Try.prog 31 = true := by kernel_rfl
theorem _root_.Go.Proofs.Try.agg49 : aggT Try.prog 49 = true := by kernel_rfl
theorem _root_.Go.Proofs.Try.agg53 : aggT Try.prog 53 = true := by kernel_rfl
theorem _root_.Go.Proofs.Try.agg77 : aggT Try.prog 77 = true := by kernel_rfl
theorem _root_.Go.Proofs.Try.agg79 : aggT Try.prog 79 = true := by kernel_rfl
theorem _root_.Go.Proofs.Try.bd29 : bldInfo Try.prog 29 = some ([(.int .i64 0), (.int .i64 0), (.bool false), (.slice none 0 0), (.slice none 0 0)], [(0, 1), (1, 1), (2, 1), (3, 1), (4, 1)]) := by kernel_rfl
theorem _root_.Go.Proofs.Try.bd31 : bldInfo Try.prog 31 = some ([(.int .i64 0), (.int .i64 0)], [(0, 1), (1, 1)]) := by kernel_rfl
theorem _root_.Go.Proofs.Try.bd53 : bldInfo Try.prog 53 = some ([(.slice none 0 0), (.slice none 0 0), (.slice none 0 0)], [(0, 1), (1, 1), (2, 1)]) := by kernel_rfl
theorem _root_.Go.Proofs.Try.einfo2 : elemInfo Try.prog 2 = some ((.int .i64 0), 1, 8) := by kernel_rfl
theorem _root_.Go.Proofs.Try.einfo40 : elemInfo Try.prog 40 = some ((.float .f32 0), 1, 4) := by kernel_rfl
theorem _root_.Go.Proofs.Try.fo24_0 : fieldOff Try.prog 24 0 = some 0 := by kernel_rfl
theorem _root_.Go.Proofs.Try.fo24_1 : fieldOff Try.prog 24 1 = some 1 := by kernel_rfl
theorem _root_.Go.Proofs.Try.fo24_2 : fieldOff Try.prog 24 2 = some 2 := by kernel_rfl
theorem _root_.Go.Proofs.Try.fo24_3 : fieldOff Try.prog 24 3 = some 3 := by kernel_rfl
theorem _root_.Go.Proofs.Try.fo24_4 : fieldOff Try.prog 24 4 = some 4 := by kernel_rfl
theorem _root_.Go.Proofs.Try.fo26_0 : fieldOff Try.prog 26 0 = some 0 := by kernel_rfl
theorem _root_.Go.Proofs.Try.fo26_1 : fieldOff Try.prog 26 1 = some 1 := by kernel_rfl
theorem _root_.Go.Proofs.Try.fo29_0 : fieldOff Try.prog 29 0 = some 0 := by kernel_rfl
theorem _root_.Go.Proofs.Try.fo29_1 : fieldOff Try.prog 29 1 = some 1 := by kernel_rfl
theorem _root_.Go.Proofs.Try.fo29_2 : fieldOff Try.prog 29 2 = some 2 := by kernel_rfl
theorem _root_.Go.Proofs.Try.fo29_3 : fieldOff Try.prog 29 3 = some 3 := by kernel_rfl
theorem _root_.Go.Proofs.Try.fo29_4 : fieldOff Try.prog 29 4 = some 4 := by kernel_rfl
theorem _root_.Go.Proofs.Try.fo31_0 : fieldOff Try.prog 31 0 = some 0 := by kernel_rfl
theorem _root_.Go.Proofs.Try.fo31_1 : fieldOff Try.prog 31 1 = some 1 := by kernel_rfl
theorem _root_.Go.Proofs.Try.fo49_0 : fieldOff Try.prog 49 0 = some 0 := by kernel_rfl
theorem _root_.Go.Proofs.Try.fo49_1 : fieldOff Try.prog 49 1 = some 1 := by kernel_rfl
theorem _root_.Go.Proofs.Try.fo49_2 : fieldOff Try.prog 49 2 = some 2 := by kernel_rfl
theorem _root_.Go.Proofs.Try.fo53_0 : fieldOff Try.prog 53 0 = some 0 := by kernel_rfl
theorem _root_.Go.Proofs.Try.fo53_1 : fieldOff Try.prog 53 1 = some 1 := by kernel_rfl
theorem _root_.Go.Proofs.Try.fo53_2 : fieldOff Try.prog 53 2 = some 2 := by kernel_rfl
theorem _root_.Go.Proofs.Try.fo77_0 : fieldOff Try.prog 77 0 = some 0 := by kernel_rfl
theorem _root_.Go.Proofs.Try.fo77_1 : fieldOff Try.prog 77 1 = some 1 := by kernel_rfl
theorem _root_.Go.Proofs.Try.fo77_2 : fieldOff Try.prog 77 2 = some 2 := by kernel_rfl
theorem _root_.Go.Proofs.Try.fo77_3 : fieldOff Try.prog 77 3 = some 3 := by kernel_rfl
theorem _root_.Go.Proofs.Try.fo79_0 : fieldOff Try.prog 79 0 = some 0 := by kernel_rfl
theorem _root_.Go.Proofs.Try.fo79_1 : fieldOff Try.prog 79 1 = some 1 := by kernel_rfl
theorem _root_.Go.Proofs.Try.fo79_2 : fieldOff Try.prog 79 2 = some 2 := by kernel_rfl
theorem _root_.Go.Proofs.Try.fo79_3 : fieldOff Try.prog 79 3 = some 3 := by kernel_rfl
theorem _root_.Go.Proofs.Try.isinfo2 : (Try.prog.info? 2).isSome = true := by kernel_rfl
theorem _root_.Go.Proofs.Try.isinfo31 : (Try.prog.info? 31).isSome = true := by kernel_rfl
theorem _root_.Go.Proofs.Try.isinfo40 : (Try.prog.info? 40).isSome = true := by kernel_rfl
theorem _root_.Go.Proofs.Try.one2 : oneCellT Try.prog 2 = true := by kernel_rfl
theorem _root_.Go.Proofs.Try.one22 : oneCellT Try.prog 22 = true := by kernel_rfl
theorem _root_.Go.Proofs.Try.one4 : oneCellT Try.prog 4 = true := by kernel_rfl
theorem _root_.Go.Proofs.Try.one40 : oneCellT Try.prog 40 = true := by kernel_rfl
theorem _root_.Go.Proofs.Try.size2 : (Try.prog.info? 2).map (·.size) = some 1 := by kernel_rfl
theorem _root_.Go.Proofs.Try.size22 : (Try.prog.info? 22).map (·.size) = some 1 := by kernel_rfl
theorem _root_.Go.Proofs.Try.size24 : (Try.prog.info? 24).map (·.size) = some 5 := by kernel_rfl
theorem _root_.Go.Proofs.Try.size26 : (Try.prog.info? 26).map (·.size) = some 2 := by kernel_rfl
theorem _root_.Go.Proofs.Try.size29 : (Try.prog.info? 29).map (·.size) = some 5 := by kernel_rfl
theorem _root_.Go.Proofs.Try.size31 : (Try.prog.info? 31).map (·.size) = some 2 := by kernel_rfl
theorem _root_.Go.Proofs.Try.size4 : (Try.prog.info? 4).map (·.size) = some 1 := by kernel_rfl
theorem _root_.Go.Proofs.Try.size40 : (Try.prog.info? 40).map (·.size) = some 1 := by kernel_rfl
theorem _root_.Go.Proofs.Try.size49 : (Try.prog.info? 49).map (·.size) = some 3 := by kernel_rfl
theorem _root_.Go.Proofs.Try.size53 : (Try.prog.info? 53).map (·.size) = some 3 := by kernel_rfl
theorem _root_.Go.Proofs.Try.size56 : (Try.prog.info? 56).map (·.size) = some 1 := by kernel_rfl
theorem _root_.Go.Proofs.Try.size77 : (Try.prog.info? 77).map (·.size) = some 4 := by kernel_rfl
theorem _root_.Go.Proofs.Try.size79 : (Try.prog.info? 79).map (·.size) = some 4 := by kernel_rfl
theorem _root_.Go.Proofs.Try.zero29 : (Try.prog.info? 29).bind (·.zero) = some (.agg [(.int .i64 0), (.int .i64 0), (.bool false), (.slice none 0 0), (.slice none 0 0)].toArray) := by kernel_rfl
theorem _root_.Go.Proofs.Try.zero31 : (Try.prog.info? 31).bind (·.zero) = some (.agg [(.int .i64 0), (.int .i64 0)].toArray) := by kernel_rfl
theorem _root_.Go.Proofs.Try.zero53 : (Try.prog.info? 53).bind (·.zero) = some (.agg [(.slice none 0 0), (.slice none 0 0), (.slice none 0 0)].toArray) := by kernel_rfl
theorem _root_.Go.Proofs.Try.zero56 : (Try.prog.info? 56).bind (·.zero) = some (.float .f64 0) := by kernel_rfl
theorem _root_.Go.Proofs.Try.zero79 : (Try.prog.info? 79).bind (·.zero) = some (.agg [(.int .i64 0), (.int .i64 0), (.int .i64 0), (.int .i64 0)].toArray) := by kernel_rfl



end Go.H
