/- Functions of the program: what each computes, as a plain function, and that the call comes to it. Written by a program (wip/gen). -/
import Derived.Test.YtjlnfficehomhaaGreatDoorGBase
import Derived.Test.YtjlnfficehomhaaGreatDoorLibB
import Derived.Test.YtjlnfficehomhaaGreatDoorProg
import Derived.KernelRfl
set_option linter.unusedVariables false
namespace Go.H
open Go Go.Proofs



noncomputable def strconv_isPowerOfTwo (a0 : Int) : Option Bool :=
 some ((bits .and .i64 a0 (IntKind.wrap .i64 (a0 - 1))) == 0)

set_option maxRecDepth 20000 in
theorem strconv_isPowerOfTwo_ok (h0 : Heap) (a0 : Int) (r : Bool) (hp : strconv_isPowerOfTwo a0 = some r) : CallsH Tryz.prog 107 ([(.int .i64 a0)].toArray ++ [].toArray) h0 (fun v h' => v = (.bool r) ∧ h0 = h') := by
 unfold strconv_isPowerOfTwo at hp
 refine callsH_of_W (l := [(.int .i64 a0)]) (cap := []) 8 Tryz.func107 rfl rfl rfl ?_
 refine W.seq ?_
 refine W.region ?_
 refine RL.opD (by decide) (opv_assign rfl rfl) ?_
 refine RL.nil ?_
 refine thnN ?_
 refine W.seq ?_
 refine W.region ?_
 refine RL.opD (by decide) (opv_move rfl rfl) ?_
 refine RL.opD (by decide) (opv_move rfl rfl) ?_
 refine RL.opD (by decide) (opv_sub rfl rfl rfl) ?_
 refine RL.opD (by decide) (opv_bits rfl rfl rfl rfl) ?_
 refine RL.opD (by decide) (opv_icmp rfl rfl rfl rfl) ?_
 refine RL.opD (by decide) (opv_assign rfl rfl) ?_
 refine RL.nil ?_
 refine thnN ?_
 refine W.ret ?_
 have er := Option.some.inj hp
 subst er
 exact Rt.one rfl rfl ⟨rfl, rfl⟩

end Go.H
