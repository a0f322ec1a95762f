/- The law OptKnown returns true: the whole run is carried out by the kernel in an abstract machine whose soundness over the model is proved in the texts that this one imports. -/
import Derived.Test.YtneeggnlgonilaaGreatDoorRows
import Derived.Test.YtneeggnlgonilaaGreatDoorCards
import Derived.Test.YtneeggnlgonilaaGreatDoorTie
import Derived.Test.YtneeggnlgonilaaGreatDoorKnownA
import Derived.WalkKit
import Derived.ProofKit
import Derived.OpenShut
import Derived.ChangeSame
import Derived.ChangeVars
import Derived.JoinedOf
import Derived.RowKit
import Derived.RowKitTokens
import Derived.LaidLaws
import Derived.LaidHandle
import Derived.SevenTiedAt
namespace Go.Proofs.YtneeggnlgonilaaGreatDoor.optKnown
open Go.ChangeShapes Go.WideShapes Go.ChangeAt Go.RowKit Go.Proofs.YtneeggnlgonilaaGreatDoor.kn

/-! ### the walk: the kernel runs the law -/
set_option maxRecDepth 1000000 in
theorem run9 : (EK.call 9 [] h0 (fun v _ => Am.isTrueA v) fun _ _ => False) = True := by kernel_rfl

def AllOK1 : List (Nat × Am.Spec) → Prop
  | [] => True
  | (j, s) :: r => Am.SpecOK C1 j s ∧ AllOK1 r
theorem gam_ok1 : ∀ {l : List (Nat × Am.Spec)}, AllOK1 l → ∀ f s, sp.gam l f = some s → Am.SpecOK C1 f s
  | [], _, f, s, h => by cases h
  | (j, s0) :: r, ⟨h1, h2⟩, f, s, h => by
    simp only [sp.gam] at h
    cases hb : Nat.beq j f with
    | true =>
      rw [hb, cond_true] at h
      cases h
      rw [← Nat.eq_of_beq_eq_true hb]; exact h1
    | false =>
      rw [hb, cond_false] at h
      exact gam_ok1 h2 f s h
theorem errAs1 : Am.SpecOK C1 35 (Am.errAsSpec 31 97 174 93) :=
  Am.errAs_ok (C := C1) Tryz.func35 (by kernel_rfl) (by kernel_rfl) rfl rfl (fun t w => as.as_nil t w) (fun e t old w hg ht hf => as.as_hit e t old w hg ht hf)
theorem gamK_ok : AllOK1 gamK := ⟨errAs1, Am.SpecOK.glob (C := sp.C0) (C' := C1) rfl sp.glob0 sp.decPrio_ok, Am.SpecOK.glob (C := sp.C0) (C' := C1) rfl sp.glob0 sp.decFail_ok, Am.SpecOK.glob (C := sp.C0) (C' := C1) rfl sp.glob0 sp.decFast_ok, Am.SpecOK.glob (C := sp.C0) (C' := C1) rfl sp.glob0 sp.decRst_ok, Am.SpecOK.glob (C := sp.C0) (C' := C1) rfl sp.glob0 sp.join_ok, trivial⟩
theorem envOK : Am.EnvOK C1 EK := Am.envOK_envN ctxOK1 (gam_ok1 gamK_ok) (Am.unrollD_ok ctxOK1 200 6) 40

def inj0 : Am.Inj := fun b => match b with | 0 => ⟨0, 0, 0⟩ | _ => ⟨2, 0, 0⟩
theorem hr0 {W : World} (h : W.cell? ⟨0, 0, none⟩ = some (.iface 174 (.agg #[.pointer (some ⟨2, 93, none⟩)]))) : Am.HR W (fun _ => False) inj0 h0 W := by
  refine ⟨rfl, rfl, rfl, Nat.le_refl _, fun _ _ _ => rfl, fun b x hb => ?_, fun b b' x x' hb hb' hne hw _ => ?_⟩
  · cases b with
    | succ b => simp [h0, Am.lookupB] at hb
    | zero =>
      have hx : x = .cells false 1 none [.iface 174 (.agg [.ptr 1 0 0 93])] := by
        have : some (Am.Blk.cells false 1 none [.iface 174 (.agg [.ptr 1 0 0 93])]) = some x := hb
        exact (Option.some.inj this).symm
      subst hx
      refine ⟨by show 0 < 2; omega, fun _ => ?_, fun hw => by cases hw⟩
      unfold World.cell? at h
      cases ho : W.heap[0]? with
      | none => simp [ho] at h
      | some o =>
        cases o with
        | cells arr e fz =>
          simp [ho] at h
          refine ⟨_, ho, arr, e, fz, rfl, fun k a hk => ?_, (fun c hc => by cases hc), Nat.le_refl _, (fun hw => by cases hw)⟩
          cases k with
          | succ k => simp at hk
          | zero =>
            simp at hk
            subst hk
            refine ⟨_, h, ?_⟩
            simp only [Am.VR, Am.VRs]
            exact ⟨_, rfl, _, rfl, _, [], rfl, ⟨by show 1 < 2; omega, .inl trivial, rfl⟩, rfl⟩
        | _ => simp [ho] at h
  · cases b with
    | succ b => simp [h0, Am.lookupB] at hb
    | zero =>
      have : some (Am.Blk.cells false 1 none [.iface 174 (.agg [.ptr 1 0 0 93])]) = some x := hb
      have := Option.some.inj this
      subst this
      cases hw

theorem globOK : Am.GlobOK C1 inj0 h0.nx := by
  intro g b h
  simp only [C1, Am.lookupB] at h
  split at h
  · rename_i e
    cases h
    exact ⟨by show 0 < 2; omega, e⟩
  · split at h
    · rename_i e
      cases h
      exact ⟨by show 1 < 2; omega, e⟩
    · cases h

theorem walkG {C : Am.Ctx} {E : Am.Env} (hE : Am.EnvOK C E) {f : FuncId} {args : List Am.AV} {h : Am.Heap} (hk : (E.call f args h (fun v _ => Am.isTrueA v) fun _ _ => False) = True) {ι : Am.Inj} {w : World} {cargs : Array Value} (H : Am.HR w (fun _ => False) ι h w) (G : Am.GlobOK C ι h.nx) (hv : Am.VRs ι h.nx args cargs.toList) :
    Calls C.P f cargs w fun e w' => e = .returned (.bool true) ∧ Am.Kept w w' := Am.calls_true hE (of_eq_true hk) H G hv
theorem walk (W : World) (h : W.cell? ⟨0, 0, none⟩ = some (.iface 174 (.agg #[.pointer (some ⟨2, 93, none⟩)]))) : Calls Tryz.prog 9 #[] W fun e w' => e = .returned (.bool true) ∧ Am.Kept W w' :=
  walkG (C := C1) (E := EK) envOK run9 (hr0 h) globOK (cargs := #[]) rfl

/-! ### THE ROW -/
theorem own : ownKnob Tryz.prog.godebug = none := by kernel_rfl
theorem et : Tryz.prog.globalNamed "errors.errorType" = some 0 := by kernel_rfl
theorem rt : (Tryz.prog.cutTypes.find? (·.1 == "internal/reflectlite.rtype")).map (·.2) = some 174 := by kernel_rfl
theorem oneRow : ((List.range Tryz.prog.types.size).filter fun t => Tryz.prog.rowNamed t [101, 114, 114, 111, 114]) = [93] := by kernel_rfl
abbrev laid : List (String × DataW Unit) := [("errors.errorType", Rows.laid_errors_errorType)]

/-- WHAT THE CONDITION GIVES A WALK: the variable's one cell. -/
theorem handle_of_laid {W : World} (h : laidMetH Tryz.prog laid W) : W.cell? ⟨0, 0, none⟩ = some (.iface 174 (.agg #[.pointer (some ⟨2, 93, none⟩)])) := by
  have h' : laidMet Tryz.prog [] W ∧ handlesMet Tryz.prog laid W := h
  obtain ⟨name, u, ty, e1, e2, e3, e4, e5⟩ := h'.2 _ (List.mem_singleton.2 rfl)
  have en : name = [101, 114, 114, 111, 114] := (Option.some.inj e1).symm
  subst en
  obtain rfl := Option.some.inj (rt.symm.trans e2)
  have hm : ty ∈ (List.range Tryz.prog.types.size).filter fun t => Tryz.prog.rowNamed t [101, 114, 114, 111, 114] := List.mem_filter.2 ⟨List.mem_range.2 e3, e4⟩
  rw [oneRow] at hm
  obtain rfl := List.mem_singleton.1 hm
  have hh : typeHandle Tryz.prog 93 = .pointer (some ⟨2, 93, none⟩) := by kernel_rfl
  rw [hh] at e5
  simpa using World.var?_cell et e5 0

/-- A world that meets the condition: the settled one, the variable's cell laid. -/
noncomputable def laidWorld (os : Os) : World :=
  let w0 := World.holding Tryz.prog os ⟨#[], #[], []⟩
  { w0 with heap := w0.heap.modify 0 fun
      | .cells _ t frozen => .cells #[.iface 174 (.agg #[.pointer (some ⟨2, 93, none⟩)])] t frozen
      | o => o }
theorem laidWorld_met (os : Os) (args : Array Value) : laidMetH Tryz.prog laid ((laidWorld os).forCall (fun _ _ => 0) ⟨#[], args, []⟩).memory :=
  laidMetH_of_parts (laidMet_nil _ _) (by kernel_rfl)

set_option maxRecDepth 100000 in
theorem lifted (os : Os) (started : os.Started) (H : Type) (enc : TypeId × Value → H) :
    ReturnsInHanded {} Tryz.checked os 9 .any (fun w args => (Rows.optKnownSpec.pre enc Tryz.prog Tryz.f9 [] false w args ∧ laidMetH Tryz.prog laid w) ∧ sizedMet enc Tryz.prog Tryz.f9 (OpenSpec.ofChange Rows.optKnownSpec) false w args)
      (Rows.optKnownSpec.post enc Tryz.prog Tryz.f9 false true false false) := by
  refine returnsInHanded_of_change_and (C := Tryz.checked) (X := fun w _ => laidMetH Tryz.prog laid w) (fun _ _ _ hh h => h.of_heap hh) own started (by kernel_rfl) Tryz.func9
    (ChangeSpec.witness_at (enc := enc) (C := Tryz.checked) (os := os) (X := fun w _ => laidMetH Tryz.prog laid w) false (laidWorld os) #[] 8 rfl (by kernel_rfl) (by kernel_rfl) (by kernel_rfl) (by kernel_rfl) (by kernel_rfl) (laidWorld_met os _)) ?_
  intro W base args ds gs before hval0 hW _ _ hL _
  have hval : ∀ (j : Nat) t v, Tryz.f9.params[j]? = some t → args[j]? = some v → Value.okWide Tryz.prog W .any base t v := hval0
  have hW' := hW
  obtain ⟨p, q, hA0, hV, rfl, hfz, hnd⟩ := hW
  have hA : DataW.TrodAll enc Tryz.prog W 0 (fun _ => true) true Tryz.f9.params.toList args.toList ds p := hA0
  rw [Tryz.params9] at hA hval
  obtain ⟨rfl, rfl, rfl⟩ := trodAll_none hA
  obtain ⟨rfl, rfl⟩ := trodVars_none hV
  clear hA0 hval0
  simp only [List.append_nil] at hW'
  refine (walk W (handle_of_laid hL)).mono fun e W' ⟨he, hg⟩ => ?_
  subst he
  exact ⟨_, rfl, Am.post_of_kept (pa := []) (pv := []) hW' (fun _ _ _ => (trodAll_cons_mk (shut_bool Tryz.underlying4 _) trodAll_mk0)) (fun sp _ => rfl) (fun _ _ => rfl) rfl
    hg (ok_one (by kernel_rfl) rfl (okWide_bool_mk Tryz.underlying4 _))⟩

theorem over : Rows.OptKnownSaid :=
  OpenClaim.holds_of_wide 9 Tryz.f9 rfl rfl rfl rfl rfl rfl rfl ⟨rfl, rfl, rfl, rfl, rfl⟩ rfl rfl rfl rfl rfl (by kernel_rfl) Tryz.func9 (by kernel_rfl)
    (of_decide_eq_true (by kernel_rfl)) (by unfold Func.isWrapper; first | (rw [if_pos (by decide +kernel)]; kernel_rfl) | (rw [if_neg (by decide +kernel)]; exact ⟨rfl, rfl⟩))
    (fun os started H enc _ => lifted os started H enc)

/-- ████ THE STATEMENT ████ -/
theorem proved : Rows.OptKnownCardSaid :=
  Claim7.holds_tied_plain_at .later [] [.handle] true (true, "238ecebaee164d972bea9ba96e28fac4999929d5325493f7b6e62ad73c41b5b0") true
    over (fun _ h => by cases h) (by kernel_rfl) (fun _ h => by cases h) optKnown_row_tie rfl ⟨rfl, rfl⟩ (by kernel_rfl) rfl
    (fun f fn hf hfn => by
      obtain rfl : f = 9 := Option.some.inj ((show Tryz.prog.funcNamed "plait/plaitlaw14.OptKnown" = some 9 by kernel_rfl).symm.trans hf) |>.symm
      obtain rfl : fn = Tryz.f9 := (Option.some.inj (Tryz.func9.symm.trans hfn)).symm
      exact ⟨by kernel_rfl, fun j t ht => by
        rw [Tryz.params9] at ht
        simp at ht⟩)
    (by kernel_rfl)
#print axioms proved
end Go.Proofs.YtneeggnlgonilaaGreatDoor.optKnown
