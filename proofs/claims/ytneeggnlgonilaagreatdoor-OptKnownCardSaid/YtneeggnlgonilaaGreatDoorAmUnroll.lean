/- Loops that are carried out, so many rounds at most. -/
import Derived.Test.YtneeggnlgonilaaGreatDoorAmFrameB
namespace Go.Am
variable {C : Ctx} {E : Env}

/-- A loop, n rounds at most; 'k': what inner loops are. -/
def unrollL (C : Ctx) (E : Env) (Lp : LoopSem) : Nat → LoopSem
  | 0 => fun _ _ _ _ => False
  | n + 1 => fun rd body st K => codeK C E Lp rd body st (thenA (fun st' => unrollL C E Lp n rd body st' K) K)

/-- Loops, so deep, each so many rounds. -/
def unrollD (C : Ctx) (rounds : Nat) : Nat → Env → LoopSem
  | 0, _ => fun _ _ _ _ => False
  | d + 1, E => unrollL C E (unrollD C rounds d E) rounds

theorem exists_min {P : Nat → Prop} (h : ∃ k, P k) : ∃ k, P k ∧ ∀ j, P j → k ≤ j := by
  obtain ⟨k, hk⟩ := h
  induction k using Nat.strongRecOn with
  | _ k ih =>
    by_cases hs : ∃ j, j < k ∧ P j
    · obtain ⟨j, hj, hp⟩ := hs; exact ih j hj hp
    · exact ⟨k, hk, fun j hj => Nat.le_of_not_lt fun hlt => hs ⟨j, hlt, hj⟩⟩

open Classical in
noncomputable def leastOf (P : Nat → Prop) : Nat := if h : ∃ k, P k then Classical.choose (exists_min h) else 0
theorem leastOf_spec {P : Nat → Prop} (h : ∃ k, P k) : P (leastOf P) ∧ ∀ j, P j → leastOf P ≤ j := by
  unfold leastOf
  rw [dif_pos h]
  exact Classical.choose_spec (exists_min h)

theorem unrollL_ok (hC : CtxOK C) (hE : EnvOK C E) (hS : ShE E) {Lp : LoopSem} (hL : LoopOK C Lp) (n : Nat) : LoopOK C (unrollL C E Lp n) := by
  intro rd body st K hk w0 O D ι a w s hr
  let I : Act → World → Nat → Prop := fun a' w' k => ∃ ι' st', Ext ι ι' st.h.nx ∧ st.h.nx ≤ st'.h.nx ∧ SR C w0 O D ι' st' a' w' ∧ unrollL C E Lp k rd body st' K
  refine wpIn_loop (fun a' w' => ∃ k, I a' w' k) (fun a' w' => leastOf (I a' w')) ⟨n, ι, st, Ext.refl _ _, Nat.le_refl _, s, hk⟩ ?_
  intro a1 w1 h1
  obtain ⟨⟨ι1, st1, he1, hn1, s1, hk1⟩, _⟩ := leastOf_spec h1
  generalize hm : leastOf (I a1 w1) = m at hk1
  cases m with
  | zero => exact hk1.elim
  | succ m =>
    have hb := codeK_sound hC hE hS hL (show codeK C E Lp rd body st1 (thenA (fun st' => unrollL C E Lp m rd body st' K) K) from hk1) s1 (fun l hl => Nat.lt_of_lt_of_le (hr l hl) hn1)
    rw [rdF_ext hr he1] at hb
    refine wpIn_mono hb ?_
    rintro e a2 w2 ⟨ι2, e', st2, hk2, he2, hn2, s2, hx⟩
    have heA : Ext ι ι2 st.h.nx := he1.trans he2 hn1
    have hnA : st.h.nx ≤ st2.h.nx := Nat.le_trans hn1 hn2
    cases e' <;> cases e <;> simp only [ExR] at hx
    · have hI : I a2 w2 m := ⟨ι2, st2, heA, hnA, s2, hk2⟩
      refine ⟨⟨m, hI⟩, ?_⟩
      have := (leastOf_spec ⟨m, hI⟩).2 m hI
      show leastOf (I a2 w2) < m + 1
      omega
    all_goals exact ⟨ι2, _, st2, hk2, heA, hnA, s2, hx⟩
theorem sh_seqLike {c : Code} {rd : Option Nat} {st : St} {Lp : LoopSem} {next : (AExit → St → Prop) → St → Prop} (hc : Sh2 fun K => codeK C E Lp rd c st (noPan K)) (hn : ∀ st', Sh2 fun K => next (noPan K) st') :
    Sh2 fun K => codeK C E Lp rd c st (thenA (next (noPan K)) (noPan K)) := by
  have e0 : ∀ K, codeK C E Lp rd c st (thenA (next (noPan K)) (noPan K)) = codeK C E Lp rd c st (noPan fun e st' => match e with | .normal => next (noPan K) st' | .panic _ => False | e => K e st') := fun K =>
    noPan_eq (m := codeK C E Lp rd c st) (Y := fun e st' => match e with | .normal => next (noPan K) st' | .panic _ => False | e => K e st') (fun e st => by cases e <;> rfl)
  intro K hk
  simp only [e0] at hk ⊢
  obtain ⟨e, st1, h1, h2⟩ := hc _ hk
  cases e with
  | normal =>
    obtain ⟨e2, st2, h3, h4⟩ := hn st1 _ h1
    exact ⟨e2, st2, h3, fun K' hk' => h2 _ (h4 _ hk')⟩
  | panic v => exact h1.elim
  | exit i => exact ⟨_, _, h1, fun K' hk' => h2 _ hk'⟩
  | goto i => exact ⟨_, _, h1, fun K' hk' => h2 _ hk'⟩
  | ret => exact ⟨_, _, h1, fun K' hk' => h2 _ hk'⟩

theorem sh_unrollL (hE : ShE E) {Lp : LoopSem} (hL : ∀ rd body st, Sh2 fun K => Lp rd body st (noPan K)) : ∀ n rd body st, Sh2 fun K => unrollL C E Lp n rd body st (noPan K)
  | 0, _, _, _ => sh_false2
  | n + 1, rd, body, st => sh_seqLike (next := fun K st' => unrollL C E Lp n rd body st' K) (sh_codeK hE hL body rd st) (fun st' => sh_unrollL hE hL n rd body st')

theorem unrollD_ok (hC : CtxOK C) (rounds : Nat) : ∀ d, LoopsOK C (unrollD C rounds d)
  | 0 => ⟨fun _ _ => fun h => h.elim, fun _ _ _ _ => sh_false2⟩
  | d + 1 => ⟨fun hE hS => unrollL_ok hC hE hS ((unrollD_ok hC rounds d).ok hE hS) rounds, fun hS => sh_unrollL hS ((unrollD_ok hC rounds d).sharp hS) rounds⟩
end Go.Am
