/- The context of the specifications: the seat's program, no variable of its own. -/
import Derived.Test.YtneeggnlgonilaaGreatDoorProg
import Derived.Test.YtneeggnlgonilaaGreatDoorBytes
import Derived.Test.YtneeggnlgonilaaGreatDoorAmDfr
import Derived.KernelRfl
namespace Go.Proofs.YtneeggnlgonilaaGreatDoor.sp
open Go.Am

noncomputable def C0 : Ctx := { P := Tryz.prog }
theorem noGor : (Tryz.prog.funcs.toList.all fun fn => !(fn.name == "runtime.NumGoroutine")) = true := by kernel_rfl
theorem ctxOK : CtxOK C0 := ⟨by kernel_rfl, fun f fn h => by
  have h' : Tryz.prog.funcs.toList[f]? = some fn := by rw [Array.getElem?_toList]; exact h
  simpa using List.all_eq_true.1 noGor fn (List.mem_of_getElem? h')⟩
theorem glob0 : C0.glob = [] := rfl

/-- Specifications by the functions' numbers. -/
def gam : List (Nat × Am.Spec) → FuncId → Option Am.Spec
  | [], _ => none
  | (j, s) :: r, f => cond (Nat.beq j f) (some s) (gam r f)
def AllOK : List (Nat × Am.Spec) → Prop
  | [] => True
  | (j, s) :: r => SpecOK C0 j s ∧ AllOK r
theorem gam_ok : ∀ {l : List (Nat × Am.Spec)}, AllOK l → ∀ f s, gam l f = some s → SpecOK C0 f s
  | [], _, f, s, h => by cases h
  | (j, s0) :: r, ⟨h1, h2⟩, f, s, h => by
    simp only [gam] at h
    cases hb : Nat.beq j f with
    | true =>
      rw [hb, cond_true] at h
      cases h
      rw [← Nat.eq_of_beq_eq_true hb]; exact h1
    | false =>
      rw [hb, cond_false] at h
      exact gam_ok h2 f s h

/-- The machine over such specifications: loops carried out, r rounds at most, d deep; n calls deep. -/
noncomputable def mkE (l : List (Nat × Am.Spec)) (r d n : Nat) : Env := envN C0 (gam l) (unrollD C0 r d) n
theorem mkE_ok {l : List (Nat × Am.Spec)} (h : AllOK l) (r d n : Nat) : EnvOK C0 (mkE l r d n) := envOK_envN ctxOK (gam_ok h) (unrollD_ok ctxOK r d) n
theorem mkE_sh {l : List (Nat × Am.Spec)} (h : AllOK l) (r d n : Nat) : ShE (mkE l r d n) := shE_envN (gam_ok h) (unrollD_ok ctxOK r d) n
noncomputable def E0 : Env := mkE [] 10 3 10
theorem E0_ok : EnvOK C0 E0 := mkE_ok (l := []) trivial 10 3 10
end Go.Proofs.YtneeggnlgonilaaGreatDoor.sp
