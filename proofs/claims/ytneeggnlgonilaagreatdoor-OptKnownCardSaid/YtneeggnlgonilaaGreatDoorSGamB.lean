/- The machine over the cursor's specifications. -/
import Derived.Test.YtneeggnlgonilaaGreatDoorSCurB
import Derived.Test.YtneeggnlgonilaaGreatDoorJoinShelf
namespace Go.Proofs.YtneeggnlgonilaaGreatDoor.sp
open Go.Am
theorem join_ok : SpecOK C0 170 joinSpec := joinSpec_ok (C := C0) Tryz.func170 (by kernel_rfl) (by kernel_rfl) fun bk o c xs sep w h1 h2 h3 h4 h5 => Tryz.strings_Join bk o c xs sep w h1 h2 h3 h4 h5
def gamB : List (Nat × Am.Spec) := (170, joinSpec) :: (129, ptrSpec 0 u8F) :: (128, ptrSpec 0 u16F) :: (135, ptrSpec 0 u32F) :: (126, ptrSpec 0 u64F) :: (136, ptrSpec 0 takeF) :: gamA
theorem gamB_ok : AllOK gamB := ⟨join_ok, u8_ok, u16_ok, u32_ok, u64_ok, take_ok, gamA_ok⟩
noncomputable def EB : Env := mkE gamB 10 3 10
theorem EB_ok : EnvOK C0 EB := mkE_ok gamB_ok 10 3 10
theorem EB_sh : ShE EB := mkE_sh gamB_ok 10 3 10
noncomputable def LB : LoopSem := unrollD C0 10 3 EB
theorem LB_ok : LoopOK C0 LB := (unrollD_ok ctxOK 10 3).ok EB_ok EB_sh
end Go.Proofs.YtneeggnlgonilaaGreatDoor.sp
