/- The head of the program: it may be entered, lifts nothing final, and is a cut. -/
import Derived.Test.YtjlnfficehomhaaDoorLibC
import Derived.Test.YtjlnfficehomhaaDoorRows
import Derived.KernelRfl
namespace Go.H
open Go Go.Proofs
theorem Tryd.io : Tryd.prog.initOrder = String.ofList ([104, 97, 114, 110, 101, 115, 115].map Char.ofNat ++ sp :: ([51, 53, 101, 98, 97, 53, 57, 102, 100, 48, 56, 97, 57, 49, 57, 99, 52, 100, 48, 55, 53, 52, 99, 49, 53, 53, 97, 99, 100, 52, 50, 53, 48, 100, 51, 49, 48, 52, 50, 48, 53, 57, 54, 99, 52, 48, 49, 55, 57, 55, 54, 53, 51, 53, 99, 100, 100, 48, 101, 49, 50, 49, 99, 52].map Char.ofNat ++ sp :: (cutWord ++ sp :: ([97, 116, 32, 108, 111, 111, 112, 46, 101, 120, 97, 109, 112, 108, 101, 47, 103, 48, 49, 50, 48, 49, 47, 108, 97, 119, 115, 46, 70, 110, 69, 120, 97, 99, 116, 83, 116, 114, 105, 112, 67, 104, 101, 99, 107, 115].map Char.ofNat)))) := by kernel_rfl
theorem Tryd.words : ∃ W, behindMainWord (wordsSigns Tryd.prog.initOrder.toList) = cutWord :: W := head_words Tryd.io (by decide +kernel) (by decide +kernel) (by decide +kernel) (by decide +kernel)
theorem Tryd.lays : Tryd.prog.laysLater = false := by kernel_rfl
theorem Tryd.reflects : Tryd.prog.bearsReflect = false := by kernel_rfl
theorem Tryd.doors : Tryd.prog.doorFits [] = true := by kernel_rfl
theorem Tryd.enters : Tryd.prog.mayEnter = true := may_enter Tryd.words Tryd.lays Tryd.reflects Tryd.doors
theorem Tryd.lifts : Tryd.prog.liftsFinal = false := lifts_final Tryd.words
theorem Tryd.makes : Tryd.prog.make = some .cut := make_cut Tryd.words
end Go.H
