/- The head of the program: it may be entered, lifts nothing final, and is a cut. -/
import Derived.Test.YtjlnfficehomhaaGreatDoorLibC
import Derived.Test.YtjlnfficehomhaaGreatDoorRows
import Derived.KernelRfl
namespace Go.H
open Go Go.Proofs
theorem Tryz.io : Tryz.prog.initOrder = String.ofList ([104, 97, 114, 110, 101, 115, 115].map Char.ofNat ++ sp :: ([56, 97, 97, 54, 54, 49, 97, 53, 49, 49, 56, 99, 98, 54, 53, 101, 49, 50, 57, 50, 50, 56, 98, 55, 54, 57, 102, 53, 51, 100, 98, 55, 97, 51, 97, 102, 57, 54, 102, 57, 57, 56, 97, 57, 99, 52, 54, 97, 53, 98, 100, 101, 99, 100, 98, 50, 49, 54, 97, 54, 51, 54, 49, 51].map Char.ofNat ++ sp :: (cutWord ++ sp :: ([97, 116, 32, 108, 111, 111, 112, 46, 101, 120, 97, 109, 112, 108, 101, 47, 103, 48, 49, 50, 48, 49, 47, 108, 97, 119, 115, 46, 70, 110, 77, 101, 115, 115, 97, 103, 101, 115].map Char.ofNat)))) := by kernel_rfl
theorem Tryz.words : ∃ W, behindMainWord (wordsSigns Tryz.prog.initOrder.toList) = cutWord :: W := head_words Tryz.io (by decide +kernel) (by decide +kernel) (by decide +kernel) (by decide +kernel)
theorem Tryz.lays : Tryz.prog.laysLater = false := by kernel_rfl
theorem Tryz.reflects : Tryz.prog.bearsReflect = false := by kernel_rfl
theorem Tryz.doors : Tryz.prog.doorFits [] = true := by kernel_rfl
theorem Tryz.enters : Tryz.prog.mayEnter = true := may_enter Tryz.words Tryz.lays Tryz.reflects Tryz.doors
theorem Tryz.lifts : Tryz.prog.liftsFinal = false := lifts_final Tryz.words
theorem Tryz.makes : Tryz.prog.make = some .cut := make_cut Tryz.words
end Go.H
