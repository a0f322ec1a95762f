/- The law OptKnown: the context, and the kernel's run. -/
import Derived.Test.YtneeggnlgonilaaGreatDoorSDec
import Derived.Test.YtneeggnlgonilaaGreatDoorAmErrAs
import Derived.Test.YtneeggnlgonilaaGreatDoorErrAs
import Derived.Test.YtneeggnlgonilaaGreatDoorAmTop
namespace Go.Proofs.YtneeggnlgonilaaGreatDoor.kn
open Go.Am Go.Proofs.YtneeggnlgonilaaGreatDoor.sp

noncomputable def C1 : Ctx := { P := Tryz.prog, closed := true, glob := [(0, 0), (2, 1)] }
theorem ctxOK1 : CtxOK C1 := ⟨by kernel_rfl, ctxOK.2⟩
def h0 : Heap := ⟨2, [(0, .cells false 1 none [.iface 174 (.agg [.ptr 1 0 0 93])])]⟩
def gamK : List (Nat × Am.Spec) := (35, errAsSpec 31 97 174 93) :: (149, pureSpec decPrioF) :: (152, pureSpec decFailF) :: (154, pureSpec decFastF) :: (156, pureSpec decRstF) :: (170, joinSpec) :: []
noncomputable def EK : Env := envN C1 (gam gamK) (unrollD C1 200 6) 40
end Go.Proofs.YtneeggnlgonilaaGreatDoor.kn
