/- Specifications of functions that defer a closure that recovers. -/
import Derived.Test.YtneeggnlgonilaaGreatDoorAmSpec
import Derived.Test.YtneeggnlgonilaaGreatDoorAmDfr
namespace Go.Am
open Go.RowKit
variable {C : Ctx} {E : Env} {w0 : World} {O : Nat → Prop}

theorem pureSpec_dfr (hG : C.glob = []) (hC : CtxOK C) (hE : EnvOK C E) (hS : ShE E) {Lp : LoopSem} (hL : LoopOK C Lp) {f : FuncId} {F : List AV → Tree AV}
    (hs : ∀ args, F args = .no ∨ (bdL 0 args ∧ (F args).bd0 ∧ ∀ k : AV → Prop, (dfrCall C E Lp f args ⟨0, []⟩ (fun v' _ => k v') noKP) = (F args).run k)) : SpecOK C f (pureSpec F) := by
  refine ⟨fun {args h K KP} hk {w0 O ι w cargs} H G hv => ?_, pureSpec_sharp F⟩
  unfold pureSpec at hk
  obtain ⟨v, hF, hk⟩ := Tree.run_iff.1 hk
  rcases hs args with h1 | ⟨h1, h2, h3⟩
  · rw [h1] at hF; cases hF
  · have hrun : dfrCall C E Lp f args ⟨0, []⟩ (fun v' _ => v' = v) noKP := by
      rw [h3 (fun v' => v' = v)]
      exact Tree.run_iff.2 ⟨v, hF, rfl⟩
    have M := morph_nil id h
    have hb : bdL (0 : Nat) args := h1
    have hv' : VRs ι h.nx (renL id args) cargs.toList := by rw [renL_bd0 id args h1]; exact hv
    obtain ⟨g1, g2⟩ := dfrCall_ok hC hE hS hL hrun (H.frame_in M) (fun g b hh => by rw [hG] at hh; simp [lookupB] at hh) (VRs.back _ _ hv' hb)
    refine ⟨g1, g2.mono fun e w' he => ?_⟩
    cases e with
    | returned cv =>
      obtain ⟨ι2, h2', v', rfl, _, _, H2, hr⟩ := he
      exact ⟨ι, h, v', hk, Ext.refl _ _, Nat.le_refl _, H.below (below_of_noWr (noWr_nil 0) H2), VR.of_bd0 _ _ hr (Tree.bd0_val h2 hF)⟩
    | panicked chain => obtain ⟨_, _, _, _, _, hf, _⟩ := he; exact hf.elim
    | outgrown => exact he.elim
end Go.Am
