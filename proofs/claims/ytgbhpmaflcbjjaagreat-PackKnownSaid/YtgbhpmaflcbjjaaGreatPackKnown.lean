/- The law PackKnown returns true: the whole run is carried out by the kernel in an abstract machine whose soundness over the model is proved in the texts that this one imports; no condition. -/
import Derived.Test.YtgbhpmaflcbjjaaGreatRows
import Derived.Test.YtgbhpmaflcbjjaaGreatAmTop
import Derived.WalkKit
import Derived.ProofKit
import Derived.OpenShut
namespace Go.Proofs.YtgbhpmaflcbjjaaGreat.packKnown
open Go.ChangeShapes Go.WideShapes Go.ChangeAt Go.RowKit

theorem own : ownKnob Tryz.prog.godebug = none := by kernel_rfl

/-! ### the walk: the kernel runs the law -/
noncomputable def C : Am.Ctx := { P := Tryz.prog, closed := true }
noncomputable def E0 : Am.Env := Am.envN C (fun _ => none) (Am.unrollD C 200 6) 40
set_option maxRecDepth 1000000 in
theorem run5 : (E0.call 5 [] ⟨0, []⟩ (fun v _ => Am.isTrueA v) fun _ _ => False) = True := by kernel_rfl

theorem noGor : (Tryz.prog.funcs.toList.all fun fn => !(fn.name == "runtime.NumGoroutine")) = true := by kernel_rfl
theorem ctxOK : Am.CtxOK C := ⟨by kernel_rfl, fun f fn h => by
  have h' : Tryz.prog.funcs.toList[f]? = some fn := by rw [Array.getElem?_toList]; exact h
  simpa using List.all_eq_true.1 noGor fn (List.mem_of_getElem? h')⟩

theorem envOK : Am.EnvOK C E0 := Am.envOK_envN ctxOK (fun _ _ h => by cases h) (Am.unrollD_ok ctxOK 200 6) 40
theorem glob0 : C.glob = [] := by kernel_rfl
theorem walk (w : World) : Calls Tryz.prog 5 #[] w fun e w' => e = .returned (.bool true) ∧ Am.Kept w w' :=
  Am.calls_closed (C := C) (E := E0) envOK glob0 run5 w

/-! ### THE ROW's STEP: WRITTEN OUT: LEAVE IT -/
set_option maxRecDepth 100000 in
theorem lifted (os : Os) (started : os.Started) (H : Type) (enc : TypeId × Value → H) :
    ReturnsInHanded {} Tryz.checked os 5 .any (Rows.packKnownSpec.pre6 enc Tryz.prog Tryz.f5 Rows.packKnownRow.domain false) (Rows.packKnownSpec.post enc Tryz.prog Tryz.f5 false true false false) := by
  refine returnsInHanded_of_change (C := Tryz.checked) own started (by kernel_rfl) Tryz.func5
    (ChangeSpec.witness6 (enc := enc) (C := Tryz.checked) false ⟨#[], #[], []⟩ 8 (by kernel_rfl) (by kernel_rfl) (by kernel_rfl) (by kernel_rfl)) ?_
  intro W base args ds gs before hval0 hW hcnd _
  have hval : ∀ (j : Nat) t v, Tryz.f5.params[j]? = some t → args[j]? = some v → Value.okWide Tryz.prog W .any base t v := hval0
  have hW' := hW
  obtain ⟨p, q, hA0, hV, rfl, hfz, hnd⟩ := hW
  have hA : DataW.TrodAll enc Tryz.prog W 0 (fun _ => true) true Tryz.f5.params.toList args.toList ds p := hA0
  rw [Tryz.params5] at hA hval
  obtain ⟨rfl, rfl, rfl⟩ := trodAll_none hA
  obtain ⟨rfl, rfl⟩ := trodVars_none hV
  clear hA0 hval0
  simp only [List.append_nil] at hW'
  refine (walk  W).mono fun e W' ⟨he, hg⟩ => ?_
  subst he
  exact ⟨_, rfl, Am.post_of_kept (pa := []) (pv := []) hW' (fun _ _ _ => (trodAll_cons_mk (shut_bool Tryz.underlying4 _) trodAll_mk0)) (fun sp _ => rfl) (fun _ _ => rfl) rfl
    hg (ok_one (by kernel_rfl) rfl (okWide_bool_mk Tryz.underlying4 _))⟩

theorem over : Rows.packKnownRow.holds Tryz.pinned (OpenSpec.ofChange Rows.packKnownSpec) :=
  OpenClaim.holds_of_wide 5 Tryz.f5 rfl rfl rfl rfl rfl rfl rfl ⟨rfl, rfl, rfl, rfl, rfl⟩ rfl rfl rfl rfl rfl (by kernel_rfl) Tryz.func5 (by kernel_rfl)
    (of_decide_eq_true (by kernel_rfl)) (by unfold Func.isWrapper; first | (rw [if_pos (by decide +kernel)]; kernel_rfl) | (rw [if_neg (by decide +kernel)]; exact ⟨rfl, rfl⟩))
    (fun os started H enc _ => lifted os started H enc)

/-- ████ THE STATEMENT ████ -/
theorem proved : Rows.PackKnownSaid :=
  over
#print axioms proved
end Go.Proofs.YtgbhpmaflcbjjaaGreat.packKnown
