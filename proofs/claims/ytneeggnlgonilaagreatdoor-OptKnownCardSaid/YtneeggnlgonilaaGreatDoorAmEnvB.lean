/- The abstract machine, n calls deep, holds of the model: soundness. -/
import Derived.Test.YtneeggnlgonilaaGreatDoorAmEnv
namespace Go.Am
variable {C : Ctx} {E : Env} {w0 : World} {O : Nat → Prop}

/-- The function's way out, over the marks. -/
theorem leaves_out {fn : Func} {tm : List (Nat × AV)} {nt : Nat} {tmps : Array Value} {K KP : KR} {ι0 : Inj} {h0 : Heap} : ∀ {df : List Nat} {h : Heap}, (shutK df h fun h' => resultsK C fn tm h' fun v => K v h') → ∀ {ι : Inj} {w : World},
    HR w0 O ι h w → TR ι h.nx tm nt tmps → Ext ι0 ι h0.nx → h0.nx ≤ h.nx → LeavesInM Fence.wide 0 C.P fn tmps (CallRes w0 O ι0 h0 K KP) (df.map (markOf ι)) .returning w
  | [], h, hk, ι, w, H, T, he, hn => by
    obtain ⟨v, cv, hk, hv, hr⟩ := resultsK_elim hk H T
    exact ⟨cv, hr, ι, h, v, hk, he, hn, H, hv⟩
  | r :: rs, h, hk, ι, w, H, T, he, hn => by
    simp only [shutK] at hk
    rw [getK_heap] at hk; obtain ⟨x, hx, hk⟩ := hk
    cases x <;> first | exact hk.elim | skip
    rename_i b
    cases b <;> first | exact hk.elim | skip
    simp only at hk
    rw [setK_heap] at hk; obtain ⟨_, hk⟩ := hk
    obtain ⟨o, ho, rfl⟩ := H.get hx rfl
    have ho' : w.heap[(ι r).blk]? = some (.deferred (some [])) := by simpa using ho
    have H' := H.set (x' := .defd true) hx rfl (turn_putObj (o' := .deferred none) ho') rfl
    refine ⟨by simp, .inl ⟨(ι r).blk, _, rfl, run_takeDeferred ho', ?_⟩⟩
    exact leaves_out hk H' T he hn

theorem bind_tr {ι : Inj} {n : Nat} : ∀ {args : List AV} {cargs : List Value} {i : Nat}, VRs ι n args cargs → ∀ j v, lookupB (bindArgs i args) j = some v → i ≤ j ∧ ∃ cv, cargs[j - i]? = some cv ∧ VR ι n v cv
  | [], cargs, i, hv, j, v, hj => by simp [bindArgs, lookupB] at hj
  | x :: xs, cargs, i, hv, j, v, hj => by
    obtain ⟨y, ys, rfl, hx, hxs⟩ := hv
    simp only [bindArgs, lookupB] at hj
    split at hj
    · rename_i e
      cases hj; subst e
      exact ⟨Nat.le_refl _, y, by simp, hx⟩
    · rename_i e
      obtain ⟨h1, cv, h2, h3⟩ := bind_tr hxs j v hj
      refine ⟨by omega, cv, ?_, h3⟩
      rw [show j - i = (j - (i + 1)) + 1 from by omega]
      simpa using h2

theorem roundTm_elim {ι : Inj} {n nt : Nat} : ∀ {ps : List Tmp} {args : List AV} {tm : List (Nat × AV)} {k : List (Nat × AV) → Prop}, roundTm ps args nt tm k → ∀ {cargs : List Value}, VRs ι n args cargs → ∀ {t : Array Value}, TR ι n tm nt t →
    cargs.length = ps.length ∧ ∃ tm1, k tm1 ∧ TR ι n tm1 nt ((ps.zip cargs).foldl (fun tmps (t, a) => tmps.setIfInBounds t a) t)
  | [], [], tm, k, hk, cargs, hv, t, T => by
    simp only [VRs] at hv; subst hv
    exact ⟨rfl, tm, hk, T⟩
  | [], _ :: _, tm, k, hk, cargs, hv, t, T => hk.elim
  | _ :: _, [], tm, k, hk, cargs, hv, t, T => hk.elim
  | p :: ps, v :: vs, tm, k, hk, cargs, hv, t, T => by
    obtain ⟨y, ys, rfl, hx, hxs⟩ := hv
    simp only [roundTm] at hk
    obtain ⟨tm', hk, _, _, ht⟩ := putTm_elim (n := n) hk
    have T' := ht ι n { tmps := t, defers := [] } y T hx
    obtain ⟨h1, tm1, h2, h3⟩ := roundTm_elim hk hxs T'
    exact ⟨by simp [h1], tm1, h2, by simpa [Act.put] using h3⟩

theorem roundFin_out {l : Nat} {K : KR} {h4 : Heap} {j : Option Code} (hk : roundFin l K h4 j) {ι4 ι0 : Inj} {h0 : Heap} {w4 : World} {KP : KR} (H : HR w0 O ι4 h4 w4) (he : Ext ι0 ι4 h0.nx) (hn : h0.nx ≤ h4.nx) :
    ∃ v w', (Instr.endRound (ι4 l).blk j).run C.P w4 = .ok v w' ∧ CallRes w0 O ι0 h0 K KP (.returned v) w' := by
  unfold roundFin at hk
  rw [getK_heap] at hk; obtain ⟨x, hx, hk⟩ := hk
  cases x <;> first | exact hk.elim | skip
  rename_i st pend tm' nt' ps' as' b' r'
  simp only at hk
  rw [setK_heap] at hk; obtain ⟨_, hk⟩ := hk
  obtain ⟨o, ho, L, rfl, h1, h2, h3', h4', h5, h6, h7, h8⟩ := H.get hx rfl
  have hrun := run_endRound (P := C.P) j ho
  cases j with
  | none =>
    have H' := H.set (x' := .loop .ready none tm' nt' ps' as' b' r') hx rfl (turn_putObj (o' := .loop { L with state := .ready, pending := none }) ho) ⟨_, rfl, rfl, rfl, h3', h4', h5, h6, h7, h8⟩
    exact ⟨_, _, hrun, ι4, _, _, hk, he, hn, H', rfl⟩
  | some c =>
    have H' := H.set (x' := .loop .done (some c) tm' nt' ps' as' b' r') hx rfl (turn_putObj (o' := .loop { L with state := .done, pending := some c }) ho) ⟨_, rfl, rfl, rfl, h3', h4', h5, h6, h7, h8⟩
    exact ⟨_, _, hrun, ι4, _, _, hk, he, hn, H', rfl⟩

section
variable {Γ : FuncId → Option Spec} {L : Env → LoopSem}

theorem envOK_envN (hC : CtxOK C) (hΓ : ∀ f s, Γ f = some s → SpecOK C f s) (hL : LoopsOK C L) : ∀ n, EnvOK C (envN C Γ L n)
  | 0 => ⟨fun h => h.elim, fun h => h.elim⟩
  | n + 1 => by
    have ih := envOK_envN hC hΓ hL n
    have ihS := shE_envN hΓ hL n
    have hLo : LoopOK C (L (envN C Γ L n)) := hL.ok ih ihS
    refine ⟨?_, ?_⟩
    · intro f args h K KP hk w0 O ι w cargs H G hv
      simp only [envN] at hk
      cases hf : Γ f with
      | some s =>
        simp only [hf] at hk
        exact (hΓ f s hf).call hk H G hv
      | none =>
        simp only [hf] at hk
        rw [optK_iff] at hk; obtain ⟨fn, hfn, hk⟩ := hk
        rw [optK_iff] at hk; obtain ⟨body, hbody, hk⟩ := hk
        rw [lenN_iff, assertB_iff] at hk; obtain ⟨hle, hk⟩ := hk
        have hle := Nat.le_of_ble_eq_true hle
        rw [Nat.zero_add] at hle
        have hlen : cargs.size = args.length := by simpa using hv.length
        refine ⟨?_, ?_⟩
        · have hg : ¬ fn.name = "runtime.NumGoroutine" := by simpa using hC.gor f fn hfn
          simp [callFunc, hfn, hg, hbody]
        · refine callsIn_of_wp_marks hfn hbody trivial ?_
          have T : TR ι h.nx (bindArgs 0 args) fn.ntmps (cargs ++ Array.replicate (fn.ntmps - cargs.size) undef) := by
            refine ⟨by simp; omega, fun j v hj => ?_⟩
            obtain ⟨_, cv, h1, h2⟩ := bind_tr hv j v hj
            refine ⟨cv, ?_, h2⟩
            rw [Nat.sub_zero] at h1
            have hj' : j < cargs.size := by
              rcases Nat.lt_or_ge j cargs.size with h | h
              · exact h
              · rw [List.getElem?_eq_none (by simpa using h)] at h1; cases h1
            rw [Array.getElem?_append_left hj', ← Array.getElem?_toList]
            exact h1
          have s : SR C w0 O [] ι ⟨bindArgs 0 args, fn.ntmps, [], h⟩ { tmps := cargs ++ Array.replicate (fn.ntmps - cargs.size) undef, defers := [] } w := ⟨H, T, rfl, fun b hb => by simp at hb, G⟩
          refine wpIn_mono (F := Fence.wide) (codeK_sound hC ih ihS hLo hk s (fun l hl => by cases hl)) ?_
          rintro e a' w' ⟨ι', e', ⟨tm', nt', df', h'⟩, hk, he, hn, s', hx⟩
          have hd := s'.df
          rw [List.append_nil] at hd
          cases e' <;> cases e <;> simp only [ExR] at hx <;> simp only [callEnd] at hk
          · simp only [bodyPostM]; rw [hd]; exact leaves_out hk s'.hr s'.tr he hn
          · simp only [bodyPostM]; rw [hd]; exact leaves_out hk s'.hr s'.tr he hn
          · cases df' <;> first | exact hk.elim | skip
            obtain ⟨cv, rfl, hvr⟩ := hx
            simp only [bodyPostM]; rw [hd]
            exact ⟨cv, rfl, ι', h', _, hk, he, hn, s'.hr, hvr⟩
    · intro l args h K hk w0 O ι w cargs H G hv
      simp only [envN] at hk
      rw [getK_heap] at hk; obtain ⟨x, hx, hk⟩ := hk
      cases x <;> first | exact hk.elim | skip
      rename_i st pend tm nt ps assign body d
      simp only at hk
      obtain ⟨o, ho, Lp, rfl, h1, h2, h3, h4, h5, h6, h7, h8⟩ := H.get hx rfl
      obtain ⟨hlen, tm1, hk, T1⟩ := roundTm_elim hk hv h3
      have hlb := (H.blk l _ hx).1
      have hsz : cargs.size = Lp.params.size := by
        have := congrArg List.length h4
        simp at this hlen
        omega
      refine ⟨_, _, _, _, run_yield ho hsz, ?_⟩
      have hfold : (Lp.params.zip cargs).foldl (fun tmps (t, a) => tmps.setIfInBounds t a) Lp.tmps = (ps.zip cargs.toList).foldl (fun tmps (t, a) => tmps.setIfInBounds t a) Lp.tmps := by
        rw [← Array.foldl_toList, Array.toList_zip, h4]
      rw [hfold, h5, h6]
      refine roundIn_of_wpIn (F := Fence.wide) trivial ?_
      have s : SR C w0 O [] ι ⟨tm1, nt, [], h⟩ { tmps := (ps.zip cargs.toList).foldl (fun tmps (t, a) => tmps.setIfInBounds t a) Lp.tmps, defers := [] } w := ⟨H, T1, rfl, fun b hb => by simp at hb, G⟩
      have hrd : RdOK h.nx (some l) := fun l' hl' => by cases hl'; exact hlb
      refine wpIn_mono (F := Fence.wide.inRound (ι l).blk) (codeK_sound hC ih ihS hLo hk s hrd) ?_
      rintro e a1 w1 ⟨ι1, e', ⟨tm2, nt2, df2, h2'⟩, hk, he, hn, s', hx'⟩
      cases e' <;> first | exact hk.elim | skip
      cases e <;> simp only [ExR] at hx'
      simp only [roundMid] at hk
      rw [getK_heap] at hk; obtain ⟨x, hx2, hk⟩ := hk
      cases x <;> first | exact hk.elim | skip
      rename_i st2 pend2 tm3 nt3 ps3 assign3 body3 d3
      cases st2 <;> first | exact hk.elim | skip
      simp only at hk
      rw [setK_heap] at hk; obtain ⟨_, hk⟩ := hk
      obtain ⟨o2, ho2, L2, rfl, g1, g2, g3, g4, g5, g6, g7, g8⟩ := s'.hr.get hx2 rfl
      have el : (ι1 l).blk = (ι l).blk := by rw [he l hlb]
      have H3 := s'.hr.set (x' := .loop .busy pend2 tm3 nt3 ps3 assign3 body3 d3) hx2 rfl (turn_putObj (o' := .loop { L2 with state := .busy }) ho2) ⟨_, rfl, rfl, g2, g3, g4, g5, g6, g7, g8⟩
      refine ⟨_, by rw [← el]; exact run_beginRound (P := C.P) ho2 g1, ?_⟩
      have s3 : SR C w0 O [] ι1 ⟨tm2, nt2, df2, ⟨h2'.nx, updL h2'.bl l (.loop .busy pend2 tm3 nt3 ps3 assign3 body3 d3)⟩⟩ a1 (w1.putObj (ι1 l).blk (.loop { L2 with state := .busy })) := ⟨H3, s'.tr, s'.df, s'.dfl, s'.gl⟩
      have hrd2 : RdOK h2'.nx (some l) := fun l' hl' => by cases hl'; exact Nat.lt_of_lt_of_le hlb hn
      have hb := codeK_sound hC ih ihS hLo hk s3 hrd2
      rw [rdF_ext hrd he] at hb
      rw [← el]
      refine wpIn_mono (F := Fence.wide.inRound (ι1 l).blk) (by rw [el]; exact el ▸ hb) ?_
      rintro e a4 w4 ⟨ι4, e', ⟨tm4, nt4, df4, h4'⟩, hk, he4, hn4, s4, hx4⟩
      have heA : Ext ι ι4 h.nx := he.trans he4 hn
      have hnA : h.nx ≤ h4'.nx := Nat.le_trans hn hn4
      have el4 : (ι4 l).blk = (ι1 l).blk := by rw [he4 l (Nat.lt_of_lt_of_le hlb hn)]
      cases e' <;> cases e <;> simp only [ExR] at hx4 <;> simp only [roundEnd] at hk
      · simp only [roundPost]; rw [← el4]; exact roundFin_out hk s4.hr heA hnA
      · subst hx4; simp only [roundPost]; rw [← el4]; exact roundFin_out hk s4.hr heA hnA
      · simp only [roundPost]; rw [← el4]; exact roundFin_out hk s4.hr heA hnA
end
end Go.Am
