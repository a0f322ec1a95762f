/- The abstract machine, n calls deep, holds of the model. -/
import Derived.Test.YtneeggnlgonilaaGreatDoorAmCall
namespace Go.Am
variable {C : Ctx} {E : Env} {w0 : World} {O : Nat → Prop}

theorem sh_shutK : ∀ (df : List Nat) (h : Heap), Sh fun K => shutK df h K
  | [], h => sh_pure h
  | r :: rs, h => by
    simp only [shutK]
    refine sh_bind (sh_hgetK _ _) fun blk => ?_
    cases blk with
    | defd b =>
      cases b
      · exact sh_bind (m := h.setK r (.defd true)) (sh_hsetK _ _ _) fun h' => sh_shutK rs h'
      · exact sh_false
    | _ => exact sh_false

theorem sh_resultsK (fn : Func) (tm : List (Nat × AV)) (h : Heap) : Sh fun K => resultsK C fn tm h K := by
  unfold resultsK
  refine sh_assert (sh_bind (sh_mapK (fun r => ?_) _) fun vs => ?_)
  · cases r with
    | tmp t => exact sh_getK _ _
    | cell a t => exact show Sh (fun K => getK tm a fun p => loadK C t p h K) from sh_bind (sh_getK _ _) fun p => sh_loadK _ _
  · rcases vs with _ | ⟨v, _ | ⟨v', vs⟩⟩ <;> exact sh_pure _

theorem sh_roundTm : ∀ (ps : List Tmp) (vs : List AV) (nt : Nat) (tm : List (Nat × AV)), Sh fun K => roundTm ps vs nt tm K
  | [], [], nt, tm => sh_pure tm
  | [], _ :: _, nt, tm => sh_false
  | _ :: _, [], nt, tm => sh_false
  | p :: ps, v :: vs, nt, tm => by
    simp only [roundTm]
    exact sh_bind (sh_putTm _ _ _ _) fun tm' => sh_roundTm ps vs nt tm'

section
variable {Γ : FuncId → Option Spec} {L : Env → LoopSem}

theorem sh_codeEnd {Lp : LoopSem} {c : Code} {rd : Option Nat} {st : St} {End : KR → AExit → St → Prop} (hc : Sh2 fun K => codeK C E Lp rd c st (noPan K)) (hend : ∀ e st, Sh2 fun K => End K e st) (hp : ∀ K v st, ¬ End K (.panic v) st) :
    Sh2 fun K => codeK C E Lp rd c st (End K) := by
  have e : ∀ K, End K = noPan (End K) := fun K => by
    funext e st
    cases e <;> first | rfl | exact eq_false (hp K _ _)
  intro K hk
  have hk : codeK C E Lp rd c st (End K) := hk
  rw [e K] at hk
  obtain ⟨x, st', h1, h2⟩ := hc _ hk
  obtain ⟨v, h', h3, h4⟩ := hend x st' _ h1
  exact ⟨v, h', h3, fun K' hk' => by show codeK C E Lp rd c st (End K'); rw [e K']; exact h2 _ (h4 _ hk')⟩

theorem sh_callEnd (fn : Func) (e : AExit) (st : St) : Sh2 fun K => callEnd C fn K noKP e st := by
  obtain ⟨tm, nt, df, h1⟩ := st
  have hres : Sh2 fun K : KR => shutK df h1 fun h' => resultsK C fn tm h' fun v => K v h' := sh_bindR (sh_shutK _ _) fun h' => sh_bindR (sh_resultsK fn tm h') fun v => sh_pure2 v h'
  cases e <;> first | exact hres | exact sh_false2 | skip
  cases df <;> exact sh_false2

theorem sh_roundFin (l : Nat) (h4 : Heap) (j : Option Code) : Sh2 fun K => roundFin l K h4 j := by
  refine sh_bindR (sh_hgetK _ _) fun blk => ?_
  cases blk <;> first | exact sh_false2 | exact sh_bindR (m := h4.setK l _) (sh_hsetK _ _ _) fun h5 => sh_pure2 _ _

theorem sh_roundEnd (l : Nat) (e : AExit) (st : St) : Sh2 fun K => roundEnd l K e st := by
  obtain ⟨tm, nt, df, h1⟩ := st
  cases e <;> simp only [roundEnd] <;> first | exact sh_false2 | exact sh_roundFin l h1 _

theorem shE_envN (hΓ : ∀ f s, Γ f = some s → SpecOK C f s) (hL : LoopsOK C L) : ∀ n, ShE (envN C Γ L n)
  | 0 => ⟨fun _ _ _ => sh_false2, fun _ _ _ => sh_false2⟩
  | n + 1 => by
    have ih := shE_envN hΓ hL n
    have hc := sh_codeK (C := C) ih (hL.sharp ih)
    refine ⟨fun f args h => ?_, fun l args h => ?_⟩
    · simp only [envN]
      cases hf : Γ f with
      | some s => exact (hΓ f s hf).sharp args h
      | none =>
        refine sh_bindR (sh_optK _) fun fn => sh_bindR (sh_optK _) fun body => sh_bindR (sh_lenN _ _) fun na => sh_assertR ?_
        refine sh_codeEnd (hc _ _ _) (sh_callEnd fn) fun K v st h => ?_
        obtain ⟨tm, nt, df, h1⟩ := st
        cases df <;> exact h
    · simp only [envN]
      refine sh_bindR (sh_hgetK _ _) fun blk => ?_
      cases blk <;> first | exact sh_false2 | skip
      refine sh_bindR (sh_roundTm _ _ _ _) fun tm1 => ?_
      refine sh_codeEnd (hc _ _ _) (fun e st => ?_) fun K v st h => by obtain ⟨tm, nt, df, h1⟩ := st; exact h
      obtain ⟨tm2, nt2, df2, h2⟩ := st
      cases e <;> first | exact sh_false2 | skip
      simp only [roundMid]
      refine sh_bindR (sh_hgetK _ _) fun blk => ?_
      cases blk <;> first | exact sh_false2 | skip
      rename_i s0 _ _ _ _ _ _ _
      cases s0 <;> first | exact sh_false2 | skip
      refine sh_bindR (m := h2.setK l _) (sh_hsetK _ _ _) fun h3 => ?_
      exact sh_codeEnd (hc _ _ _) (sh_roundEnd l) fun K v st h => by obtain ⟨tm, nt, df, h1⟩ := st; exact h
end

/-! ### soundness -/
theorem loadVar_of {t : TypeId} {a : Addr} {P : Program} {w : World} {r : Result Value} (h : (Instr.loadAt t (.pointer (some a))).run P w = r) : (do loadVar t (← asAddr (.pointer (some a))) : Sem Value).run P w = r := by
  simpa [Instr.loadAt, Instr.sureAddr, asAddr] using h

theorem split_runs {ι : Inj} {n : Nat} {α : Type} {g : α → Value → Prop} : ∀ {l : List α} {rs : List AV}, rs.length = l.length → (∀ (i : Nat) r, l[i]? = some r → ∃ v, rs[i]? = some v ∧ ∃ cv, VR ι n v cv ∧ g r cv) →
    ∃ vs : List Value, vs.length = l.length ∧ VRs ι n rs vs ∧ ∀ (i : Nat) r, l[i]? = some r → ∃ cv, vs[i]? = some cv ∧ g r cv
  | [], rs, hrl, hrs => by
    have : rs = [] := List.length_eq_zero_iff.1 (by simpa using hrl)
    subst this
    exact ⟨[], rfl, rfl, fun i r h => by simp at h⟩
  | r :: l, [], hrl, hrs => by simp at hrl
  | r :: l, x :: rs, hrl, hrs => by
    obtain ⟨y, hy, cv, hv, hr⟩ := hrs 0 r rfl
    simp at hy; subst hy
    obtain ⟨vs, h1, h2, h3⟩ := split_runs (g := g) (l := l) (rs := rs) (by simpa using hrl) fun i r hi => by simpa using hrs (i + 1) r (by simpa using hi)
    refine ⟨cv :: vs, by simp [h1], ⟨cv, vs, rfl, hv, h2⟩, fun i r' hi => ?_⟩
    cases i with
    | zero => simp at hi; subst hi; exact ⟨cv, rfl, hr⟩
    | succ i => simpa using h3 i r' (by simpa using hi)

theorem resultsK_elim {fn : Func} {tm : List (Nat × AV)} {h : Heap} {k : AV → Prop} (hk : resultsK C fn tm h k) {ι : Inj} {w : World} {nt : Nat} {tmps : Array Value} (H : HR w0 O ι h w) (T : TR ι h.nx tm nt tmps) :
    ∃ v cv, k v ∧ VR ι h.nx v cv ∧ (results fn tmps).run C.P w = .ok cv w := by
  unfold resultsK at hk
  rw [assertB_iff] at hk; obtain ⟨hl, hk⟩ := hk
  have hl := Nat.le_of_ble_eq_true hl
  let g : ResultVar → Sem Value := fun
    | .tmp t => pure (tmps.getD t undef)
    | .cell a t => do loadVar t (← asAddr (tmps.getD a undef))
  obtain ⟨rs, hrl, hrs, hk⟩ := mapK_elim (R := fun r v => ∃ cv, VR ι h.nx v cv ∧ (g r).run C.P w = .ok cv w) (fun r _ Kx hx => by
    cases r with
    | tmp t =>
      simp only [getK_iff] at hx
      obtain ⟨v, hv, hx⟩ := hx
      obtain ⟨cv, h1, h2⟩ := T.2 t v hv
      exact ⟨v, ⟨cv, h2, by simp [g, Array.getD_eq_getD_getElem?, h1]⟩, hx⟩
    | cell a t =>
      simp only [getK_iff] at hx
      obtain ⟨p, hp, hx⟩ := hx
      obtain ⟨cp, h1, h2⟩ := T.2 a p hp
      obtain ⟨v, cv, hx, hv, hr⟩ := loadK_elim hx H h2
      refine ⟨v, ⟨cv, hv, ?_⟩, hx⟩
      have hpt : ∃ ad, cp = .pointer (some ad) := by
        cases p <;> first | exact hx.elim | skip
        all_goals (simp only [VR] at h2)
        all_goals first | (obtain ⟨_, _, rfl⟩ := h2; exact ⟨_, rfl⟩) | skip
        all_goals (subst h2; simp [Instr.loadAt, Instr.sureAddr] at hr)
      obtain ⟨ad, rfl⟩ := hpt
      have := loadVar_of hr
      simpa [g, Array.getD_eq_getD_getElem?, h1] using this) hk
  generalize hres : fn.results = res at *
  obtain ⟨l⟩ := res
  simp only at hrl hrs hl hk
  obtain ⟨vs, hvl, hvr, hvs⟩ := split_runs hrl hrs
  have hrun : (results fn tmps).run C.P w = .ok (if h : vs.toArray.size = 1 then vs.toArray[0] else .tuple vs.toArray) w := by
    have hg : ∀ r, (match r with
      | ResultVar.tmp t => pure (tmps.getD t undef)
      | ResultVar.cell a t => do loadVar t (← asAddr (tmps.getD a undef)) : Sem Value) = g r := fun r => by cases r <;> rfl
    unfold results
    rw [hres]
    have hgf : (fun r : ResultVar => (match r with
      | ResultVar.tmp t => pure (tmps.getD t undef)
      | ResultVar.cell a t => do loadVar t (← asAddr (tmps.getD a undef)) : Sem Value)) = g := funext hg
    show Sem.run C.P (do let vs ← Array.mapM (fun r : ResultVar => (match r with
      | ResultVar.tmp t => pure (tmps.getD t undef)
      | ResultVar.cell a t => do loadVar t (← asAddr (tmps.getD a undef)) : Sem Value)) ⟨l⟩; pure (if h : vs.size = 1 then vs[0] else .tuple vs)) w = _
    rw [hgf]
    rcases l with _ | ⟨r0, _ | ⟨r1, _ | ⟨r2, _ | ⟨r3, _ | ⟨r4, l⟩⟩⟩⟩⟩
    · have : vs = [] := List.length_eq_zero_iff.1 (by simpa using hvl)
      subst this; simp
    · obtain ⟨c0, h0, e0⟩ := hvs 0 r0 rfl
      rcases vs with _ | ⟨v0, _ | ⟨v1, vs⟩⟩ <;> simp at hvl
      simp at h0; subst h0
      simp [Sem.run_bind, e0]
    · obtain ⟨c0, h0, e0⟩ := hvs 0 r0 rfl
      obtain ⟨c1, h1, e1⟩ := hvs 1 r1 rfl
      rcases vs with _ | ⟨v0, _ | ⟨v1, _ | ⟨v2, vs⟩⟩⟩ <;> simp at hvl
      simp at h0 h1; subst h0 h1
      simp [Sem.run_bind, e0, e1]
    · obtain ⟨c0, h0, e0⟩ := hvs 0 r0 rfl
      obtain ⟨c1, h1, e1⟩ := hvs 1 r1 rfl
      obtain ⟨c2, h2, e2⟩ := hvs 2 r2 rfl
      rcases vs with _ | ⟨v0, _ | ⟨v1, _ | ⟨v2, _ | ⟨v3, vs⟩⟩⟩⟩ <;> simp at hvl
      simp at h0 h1 h2; subst h0 h1 h2
      simp [Sem.run_bind, e0, e1, e2]
    · obtain ⟨c0, h0, e0⟩ := hvs 0 r0 rfl
      obtain ⟨c1, h1, e1⟩ := hvs 1 r1 rfl
      obtain ⟨c2, h2, e2⟩ := hvs 2 r2 rfl
      obtain ⟨c3, h3, e3⟩ := hvs 3 r3 rfl
      rcases vs with _ | ⟨v0, _ | ⟨v1, _ | ⟨v2, _ | ⟨v3, _ | ⟨v4, vs⟩⟩⟩⟩⟩ <;> simp at hvl
      simp at h0 h1 h2 h3; subst h0 h1 h2 h3
      simp [Sem.run_bind, e0, e1, e2, e3]
    · simp at hl
  rcases rs with _ | ⟨a, _ | ⟨b, rs⟩⟩
  · refine ⟨_, _, hk, ?_, hrun⟩
    have hl2 := hvr.length
    rw [dif_neg (by simp at hl2 ⊢; simp [hl2])]
    exact ⟨_, rfl, by simpa using hvr⟩
  · obtain ⟨y, ys, rfl, hy, hys⟩ := hvr
    simp only [VRs] at hys; subst hys
    exact ⟨_, _, hk, by simpa using hy, hrun⟩
  · refine ⟨_, _, hk, ?_, hrun⟩
    have hl2 := hvr.length
    rw [dif_neg (by simp at hl2 ⊢; omega)]
    exact ⟨_, rfl, by simpa using hvr⟩
end Go.Am
