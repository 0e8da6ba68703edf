/- The head of the program: it may be entered, lifts nothing final, and is a cut. -/
import Derived.Test.YtmgoblppedmdhaaLibC
import Derived.Test.YtmgoblppedmdhaaProg
import Derived.Test.YtmgoblppedmdhaaRows
import Derived.KernelRfl
namespace Go.H
open Go Go.Proofs
theorem Try.io : Try.prog.initOrder = String.ofList ([104, 97, 114, 110, 101, 115, 115].map Char.ofNat ++ sp :: ([55, 53, 56, 53, 101, 101, 98, 57, 49, 56, 55, 56, 55, 57, 53, 98, 57, 97, 53, 100, 99, 100, 56, 54, 54, 49, 57, 48, 102, 101, 50, 97, 101, 99, 99, 50, 57, 56, 55, 98, 52, 56, 57, 49, 55, 101, 55, 99, 56, 97, 53, 48, 55, 100, 53, 57, 56, 101, 50, 54, 50, 48, 55, 100].map Char.ofNat ++ sp :: (cutWord ++ sp :: ([97, 116, 32, 108, 111, 111, 112, 46, 101, 120, 97, 109, 112, 108, 101, 47, 103, 48, 49, 50, 48, 49, 47, 108, 97, 119, 115, 46, 70, 110, 76, 97, 103, 115, 32, 108, 111, 111, 112, 46, 101, 120, 97, 109, 112, 108, 101, 47, 103, 48, 49, 50, 48, 49, 47, 108, 97, 119, 115, 46, 70, 110, 83, 104, 97, 114, 101, 115, 32, 108, 111, 111, 112, 46, 101, 120, 97, 109, 112, 108, 101, 47, 103, 48, 49, 50, 48, 49, 47, 108, 97, 119, 115, 46, 70, 110, 66, 105, 110, 115, 67, 117, 116, 32, 108, 111, 111, 112, 46, 101, 120, 97, 109, 112, 108, 101, 47, 103, 48, 49, 50, 48, 49, 47, 108, 97, 119, 115, 46, 70, 110, 83, 112, 101, 99, 116, 114, 97, 65, 100, 100, 101, 100, 32, 108, 111, 111, 112, 46, 101, 120, 97, 109, 112, 108, 101, 47, 103, 48, 49, 50, 48, 49, 47, 108, 97, 119, 115, 46, 70, 110, 71, 114, 97, 100, 101, 100, 32, 108, 111, 111, 112, 46, 101, 120, 97, 109, 112, 108, 101, 47, 103, 48, 49, 50, 48, 49, 47, 108, 97, 119, 115, 46, 70, 110, 69, 120, 97, 99, 116, 72, 97, 108, 111, 82, 111, 119, 115, 32, 108, 111, 111, 112, 46, 101, 120, 97, 109, 112, 108, 101, 47, 103, 48, 49, 50, 48, 49, 47, 108, 97, 119, 115, 46, 70, 110, 83, 112, 101, 99, 116, 114, 97, 32, 108, 111, 111, 112, 46, 101, 120, 97, 109, 112, 108, 101, 47, 103, 48, 49, 50, 48, 49, 47, 108, 97, 119, 115, 46, 70, 110, 69, 120, 97, 99, 116, 77, 101, 115, 115, 97, 103, 101, 115, 79, 102].map Char.ofNat)))) := by kernel_rfl
theorem Try.words : ∃ W, behindMainWord (wordsSigns Try.prog.initOrder.toList) = cutWord :: W := head_words Try.io (by decide +kernel) (by decide +kernel) (by decide +kernel) (by decide +kernel)
theorem Try.lays : Try.prog.laysLater = false := by kernel_rfl
theorem Try.reflects : Try.prog.bearsReflect = false := by kernel_rfl
theorem Try.doors : Try.prog.doorFits [] = true := by kernel_rfl
theorem Try.enters : Try.prog.mayEnter = true := may_enter Try.words Try.lays Try.reflects Try.doors
theorem Try.lifts : Try.prog.liftsFinal = false := lifts_final Try.words
theorem Try.makes : Try.prog.make = some .cut := make_cut Try.words
end Go.H
