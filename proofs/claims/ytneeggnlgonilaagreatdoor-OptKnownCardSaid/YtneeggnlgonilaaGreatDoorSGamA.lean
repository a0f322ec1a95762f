/- The machine over the specifications of the numbers in bytes. -/
import Derived.Test.YtneeggnlgonilaaGreatDoorSCurA
namespace Go.Proofs.YtneeggnlgonilaaGreatDoor.sp
open Go.Am
def gamA : List (Nat × Am.Spec) := [(160, pureSpec put8F), (162, pureSpec put16F), (166, pureSpec put32F), (161, pureSpec put64F),
  (177, ptrSpec 1 num8F), (176, ptrSpec 1 num16F), (178, ptrSpec 1 num32F), (175, ptrSpec 1 num64F)]
theorem gamA_ok : AllOK gamA := ⟨put8_ok, put16_ok, put32_ok, put64_ok, num8_ok, num16_ok, num32_ok, num64_ok, trivial⟩
noncomputable def EA : Env := mkE gamA 10 3 10
theorem EA_ok : EnvOK C0 EA := mkE_ok gamA_ok 10 3 10
end Go.Proofs.YtneeggnlgonilaaGreatDoor.sp
