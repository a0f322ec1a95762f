/- Code: the abstract machine's word holds of the model. -/
import Derived.Test.YtneeggnlgonilaaGreatDoorAmDrawD
import Derived.RangeFuncNested
import Derived.Scope
namespace Go.Am
variable {C : Ctx} {E : Env} {w0 : World} {O : Nat → Prop} {D : List Deferred}

def rdF (ι : Inj) (rd : Option Nat) : Option Nat := rd.map fun l => (ι l).blk
def RdOK (n : Nat) (rd : Option Nat) : Prop := ∀ l, rd = some l → l < n
theorem rdF_ext {ι ι' : Inj} {n : Nat} {rd : Option Nat} (h : RdOK n rd) (he : Ext ι ι' n) : rdF ι' rd = rdF ι rd := by
  cases rd with
  | none => rfl
  | some l => simp [rdF, he l (h l rfl)]

/-- What a loop that is left to the prover must reach. -/
def LoopOK (C : Ctx) (Lp : LoopSem) : Prop := ∀ {rd : Option Nat} {body : Code} {st : St} {K : AExit → St → Prop}, Lp rd body st K → ∀ {w0 : World} {O : Nat → Prop} {D : List Deferred} {ι : Inj} {a : Act} {w : World},
  SR C w0 O D ι st a w → RdOK st.h.nx rd → (Code.loop body).wpIn (Fw (rdF ι rd)) 0 C.P (QK C w0 O D ι st.h.nx K) a w

structure CtxOK (C : Ctx) : Prop where
  mixed : C.P.follows .mixedOrders = true
  gor : ∀ (f : FuncId) (fn : Func), C.P.funcs[f]? = some fn → (fn.name == "runtime.NumGoroutine") = false

theorem SR.drew {ι : Inj} {st : St} {a : Act} {w : World} (s : SR C w0 O D ι st a w) (d : Nat) : SR C w0 O D ι st a { w with drawn := d } := ⟨s.hr.drew d, s.tr, s.df, s.dfl, s.gl⟩

theorem map_markOf {ι ι' : Inj} {n : Nat} {df : List Nat} (h : ∀ b ∈ df, b < n) (he : Ext ι ι' n) : df.map (markOf ι') = df.map (markOf ι) := by
  apply List.map_congr_left
  intro b hb
  simp [markOf, he b (h b hb)]

theorem regionK_sound (hC : CtxOK C) (hE : EnvOK C E) (hS : ShE E) {id : Nat} {ops : Array Oper} {draw : Bool} {st : St} {K : AExit → St → Prop} (hk : regionK C E ops draw st K) {ι : Inj} {a : Act} {w : World} (s : SR C w0 O D ι st a w) {r : Option Nat} :
    (Code.region id ops draw).wpIn (Fw r) 0 C.P (QK C w0 O D ι st.h.nx K) a w := by
  obtain ⟨tm, nt, df, h⟩ := st
  cases draw with
  | false =>
    simp only [regionK] at hk
    refine wpIn_region_list (opsK_sound hE hk s.hr s.tr s.gl ?_ ?_)
    · intro ι' tm' h' a' w' hk he hn hr ht hd
      exact ⟨ι', .normal, ⟨tm', nt, df, h'⟩, hk, he, hn, ⟨hr, ht, by rw [hd, s.df]; exact congrArg (· ++ D) (map_markOf s.dfl he).symm, fun b hb => Nat.lt_of_lt_of_le (s.dfl b hb) hn, s.gl.mono he hn⟩, trivial⟩
    · intro ι' tm' h' a' w' v cv hk he hn hr ht hv hd
      exact ⟨ι', .panic v, ⟨tm', nt, df, h'⟩, hk, he, hn, ⟨hr, ht, by rw [hd, s.df]; exact congrArg (· ++ D) (map_markOf s.dfl he).symm, fun b hb => Nat.lt_of_lt_of_le (s.dfl b hb) hn, s.gl.mono he hn⟩, cv, rfl, hv⟩
  | true =>
    simp only [regionK] at hk
    rw [assertB_iff] at hk; obtain ⟨hd, hk⟩ := hk
    have R := drawOk_elim hd
    obtain ⟨F, H, sF, hk, T⟩ := opsK_tr hS ops.toList 0 tm h [] [h] 0 _ (fun j => by simp) (by simp) rfl hk
    obtain ⟨tmF, hF, rF, hsF, phF⟩ := sF
    rw [assertB_iff] at hk; obtain ⟨hlate, hk⟩ := hk
    obtain ⟨hk, hst⟩ := stabK_elim hS hk
    refine wpIn_region_any hC.mixed ?_
    have h0 : cnt C ops (listedS (Array.replicate ops.size false)) = 0 := by
      have : ∀ k, listedS (Array.replicate ops.size false) k = false := fun k => by
        simp only [listedS, Array.getD_eq_getD_getElem?, Array.getElem?_replicate]
        split <;> rfl
      unfold cnt
      rw [List.filter_eq_nil_iff.2 fun k _ => by simp [this k]]; rfl
    have hl0 : ∀ k, listedS (Array.replicate ops.size false) k = false := fun k => by
      simp only [listedS, Array.getD_eq_getD_getElem?, Array.getElem?_replicate]
      split <;> rfl
    have hv0 : ∀ n d, vals ops F tm (listedS (Array.replicate ops.size false)) n d = lookupB tm d := by
      intro n d
      induction n with
      | zero => rfl
      | succ n ih => simp only [vals, hl0, Bool.false_eq_true, false_and, if_false]; exact ih
    refine draw_sound (w0 := w0) (O := O) (ws := w.heap.size) hE R T (lateOK_of hlate) s.hr.size hst (df := a.defers) s.gl (fun b y hb hl => ⟨(s.hr.blk b y hb).1, by obtain ⟨o, ho, _⟩ := s.hr.get hb hl; exact heap_lt ho⟩) ?_ ops.size _ a _ ?_ ?_
    · intro ι' a' w' he hn hr ht hdf
      exact ⟨ι', .normal, ⟨tmF, nt, df, hF⟩, hk, he, hn, ⟨hr, ht, by rw [hdf, s.df]; exact congrArg (· ++ D) (map_markOf s.dfl he).symm, fun b hb => Nat.lt_of_lt_of_le (s.dfl b hb) hn, s.gl.mono he hn⟩, trivial⟩
    · refine ⟨by simp, fun k o hk _ => (by rw [hl0 k] at hk; cases hk), ⟨ι, listedS (Array.replicate ops.size false), fun _ => 0, ⟨fun k o hk => (by rw [hl0 k] at hk; cases hk), fun i k _ _ _ hk => (by rw [hl0 k] at hk; cases hk), fun k hk => hk, Ext.refl _ _, ?_, Nat.le_refl _, ?_, ?_,
        fun x hx => (by rw [hl0 x] at hx; cases hx), fun x y hx => (by rw [hl0 x] at hx; cases hx), fun x hx => (by rw [hl0 x] at hx; cases hx)⟩, fun x hx => (by rw [hl0 x] at hx; cases hx)⟩, s.tr.1, rfl⟩
      · rw [h0, T.h0]; exact Nat.le_refl _
      · rw [h0, T.h0]; exact s.hr.drew _
      · intro d v _ hd
        rw [hv0] at hd
        rw [h0, T.h0]
        exact s.tr.2 d v hd
    · rw [List.filter_eq_self.2 fun k _ => by simp [hl0 k]]
      simp

theorem QK.normal {ι : Inj} {nx : Nat} {K : AExit → St → Prop} {st : St} {a : Act} {w : World} (hk : K .normal st) (s : SR C w0 O D ι st a w) (hn : nx = st.h.nx) : QK C w0 O D ι nx K .normal a w :=
  ⟨ι, .normal, st, hk, Ext.refl _ _, by subst hn; exact Nat.le_refl _, s, trivial⟩

/-- The function that is ranged over has returned. -/
theorem endLoop_out {ι3 : Inj} {h3 : Heap} {w3 : World} {l : Nat} {tm : List (Nat × AV)} {nt : Nat} {df : List Nat} {K : AExit → St → Prop} {r : Option Nat} {a' : Act}
    (hk : h3.getK l fun
      | .loop s pend tm' nt' ps' a' b' r' => assertB (match s with | .busy => false | _ => true) (h3.setK l (.loop .exhausted pend tm' nt' ps' a' b' r') fun h4 =>
              match pend with
              | none => K .normal ⟨tm, nt, df, h4⟩
              | some .ret => K .ret ⟨tm, nt, df, h4⟩
              | some (.exit id) => K (.exit id) ⟨tm, nt, df, h4⟩
              | some _ => False)
      | _ => False)
    (H : HR w0 O ι3 h3 w3) (ht : TR ι3 h3.nx tm nt a'.tmps) (hd : a'.defers = df.map (markOf ι3) ++ D) (hdl : ∀ b ∈ df, b < h3.nx) (G : GlobOK C ι3 h3.nx) :
    ∃ jump w4, (Instr.endLoop (ι3 l).blk).run C.P w3 = .ok jump w4 ∧
      (match jump with
       | none => QK C w0 O D ι3 h3.nx K .normal a' w4
       | some c => c.wpIn (Fw r) 0 C.P (QK C w0 O D ι3 h3.nx K) a' w4) := by
  rw [getK_heap] at hk; obtain ⟨x, hx, hk⟩ := hk
  cases x <;> simp only at hk
  rename_i st pend tm' nt' ps' as' b' r'
  rw [assertB_iff] at hk; obtain ⟨hs, hk⟩ := hk
  rw [setK_heap] at hk; obtain ⟨_, hk⟩ := hk
  obtain ⟨o, ho, L, rfl, h1, h2, h3', h4, h5, h6, h7, h8⟩ := H.get hx rfl
  have hst : L.state ≠ .busy := by rw [h1]; cases st <;> simp_all
  have hrun := run_endLoop (P := C.P) ho hst
  have hturn : Turn w3 (w3.putObj (ι3 l).blk (.loop { L with state := .exhausted })) (ι3 l).blk (.loop { L with state := .exhausted }) := by
    have hlt := heap_lt ho
    refine ⟨rfl, rfl, rfl, by simp [World.putObj], by simp [World.putObj, hlt], fun j hj => ?_⟩
    simp only [World.putObj, Array.getElem?_setIfInBounds]
    rw [if_neg (by simpa using fun h => hj h.symm)]
  have H' := H.set (x' := .loop .exhausted pend tm' nt' ps' as' b' r') hx rfl hturn ⟨_, rfl, rfl, h2, h3', h4, h5, h6, h7, h8⟩
  have s' : SR C w0 O D ι3 ⟨tm, nt, df, ⟨h3.nx, updL h3.bl l (.loop .exhausted pend tm' nt' ps' as' b' r')⟩⟩ a' (w3.putObj (ι3 l).blk (.loop { L with state := .exhausted })) := ⟨H', ht, hd, hdl, G⟩
  refine ⟨_, _, hrun, ?_⟩
  generalize w3.putObj (ι3 l).blk (.loop { L with state := .exhausted }) = w4 at s' ⊢
  rw [h2]
  split at hk
  · exact ⟨ι3, .normal, _, hk, Ext.refl _ _, Nat.le_refl _, s', trivial⟩
  · exact wpIn_ret ⟨ι3, .ret, _, hk, Ext.refl _ _, Nat.le_refl _, s', trivial⟩
  · exact wpIn_exit ⟨ι3, .exit _, _, hk, Ext.refl _ _, Nat.le_refl _, s', rfl⟩
  · exact hk.elim

theorem stepR_scope {P : Program} {b : Frame} {a : Act} {k : List Item} {cs : List Frame} {w : World} {c : Code} : step P (lone (b.atR a (.code (.scope c) :: k)) cs w) = .next (lone (b.atR a (.code c :: .inScope c :: k)) cs w) :=
  step_lone_go (by simp [stepG, stepG.exec, Frame.atR])
theorem stepR_inScope {P : Program} {b : Frame} {a : Act} {k : List Item} {cs : List Frame} {w : World} {c : Code} : step P (lone (b.atR a (.inScope c :: k)) cs w) = .next (lone (b.atR a k) cs w) :=
  step_lone_go (by simp [stepG, stepG.exec, Frame.atR])

theorem wpIn_scope {P : Program} {F : Fence} {n : Nat} {a : Act} {w : World} {Q : Exit → Act → World → Prop} {c : Code} (h : c.wpIn F n P (Exit.noGoto Q) a w) : (Code.scope c).wpIn F n P Q a w := by
  intro b k cs hro hb hr
  have h0 : (lone (b.atR a (.code (.scope c) :: k)) cs w).fenced P F := fenced_calm hb hr rfl
  obtain ⟨e, a₁, w₁, hq, harr⟩ := h b (.inScope c :: k) cs hro hb hr
  cases e with
  | normal => exact ⟨.normal, a₁, w₁, hq, .head h0 stepR_scope (StepsIn.trans harr (.one (fenced_calm hb hr rfl) stepR_inScope))⟩
  | exit id' =>
    have hx : exitTo id' (.inScope c :: k) = exitTo id' k := by simp [exitTo]
    exact ⟨.exit id', a₁, w₁, hq, fun k' hk => .head h0 stepR_scope (harr.1 k' (by rw [hx]; exact hk)),
      fun hr' hk => let ⟨k₁, h1, h2⟩ := harr.2 hr' (by rw [hx]; exact hk); ⟨k₁, h1, .head h0 stepR_scope h2⟩⟩
  | goto l => exact hq.elim
  | ret => exact ⟨_, a₁, w₁, hq, .of_steps (.one h0 stepR_scope) harr⟩
  | panic ch => exact ⟨_, a₁, w₁, hq, .of_steps (.one h0 stepR_scope) harr⟩
  | outgrown => exact ⟨_, a₁, w₁, hq, .of_steps (.one h0 stepR_scope) harr⟩

theorem codeK_sound (hC : CtxOK C) (hE : EnvOK C E) (hS : ShE E) {Lp : LoopSem} (hL : LoopOK C Lp) : ∀ {c : Code} {rd : Option Nat} {st : St} {K : AExit → St → Prop}, codeK C E Lp rd c st K → ∀ {ι : Inj} {a : Act} {w : World},
    SR C w0 O D ι st a w → RdOK st.h.nx rd → c.wpIn (Fw (rdF ι rd)) 0 C.P (QK C w0 O D ι st.h.nx K) a w
  | .skip, rd, st, K, hk, ι, a, w, s, hr => wpIn_skip (QK.normal hk s rfl)
  | .label _, rd, st, K, hk, ι, a, w, s, hr => wpIn_label (QK.normal hk s rfl)
  | .region _ ops draw, rd, st, K, hk, ι, a, w, s, hr => regionK_sound hC hE hS hk s
  | .seq x y, rd, st, K, hk, ι, a, w, s, hr => by
    simp only [codeK] at hk
    refine wpIn_seq (wpIn_mono (codeK_sound hC hE hS hL hk s hr) ?_)
    rintro e a' w' ⟨ι', e', st', hk, he, hn, s', hx⟩
    cases e' <;> cases e <;> simp only [ExR] at hx
    · have := codeK_sound hC hE hS hL (show codeK C E Lp rd y st' K from hk) s' (fun l hl => Nat.lt_of_lt_of_le (hr l hl) hn)
      rw [rdF_ext hr he] at this
      exact wpIn_mono this fun e a w hq => hq.ext he hn
    all_goals exact ⟨ι', _, st', hk, he, hn, s', hx⟩
  | .cond c x y, rd, ⟨tm, nt, df, h⟩, K, hk, ι, a, w, s, hr => by
    simp only [codeK] at hk
    obtain ⟨v, hk, hv⟩ := rho_ok s.tr s.gl c _ hk
    cases v <;> simp only at hk
    rename_i b
    simp only [VR] at hv
    unfold brK at hk
    cases b with
    | true => exact wpIn_cond_true hv (codeK_sound hC hE hS hL hk s hr)
    | false => exact wpIn_cond_false hv (codeK_sound hC hE hS hL hk s hr)
  | .block id b, rd, st, K, hk, ι, a, w, s, hr => by
    simp only [codeK] at hk
    refine wpIn_block (wpIn_mono (codeK_sound hC hE hS hL hk s hr) ?_)
    rintro e a' w' ⟨ι', e', st', hk, he, hn, s', hx⟩
    cases e' <;> cases e <;> simp only [ExR] at hx
    case exit.exit i j =>
      subst hx
      simp only [inBlockA] at hk
      simp only [Exit.inBlock]
      by_cases hid : i = id
      · subst hid
        rw [Nat.beq_refl, cond_true] at hk
        rw [if_pos rfl]
        exact ⟨ι', .normal, st', hk, he, hn, s', trivial⟩
      · have hb : Nat.beq i id = false := by
          cases hh : Nat.beq i id with
          | false => rfl
          | true => exact absurd (Nat.eq_of_beq_eq_true hh) hid
        rw [hb, cond_false] at hk
        rw [if_neg hid]
        exact ⟨ι', .exit i, st', hk, he, hn, s', rfl⟩
    all_goals exact ⟨ι', _, st', hk, he, hn, s', hx⟩
  | .loop b, rd, st, K, hk, ι, a, w, s, hr => hL hk s hr
  | .exit id, rd, st, K, hk, ι, a, w, s, hr => wpIn_exit ⟨ι, .exit id, st, hk, Ext.refl _ _, Nat.le_refl _, s, rfl⟩
  | .ret, rd, st, K, hk, ι, a, w, s, hr => wpIn_ret ⟨ι, .ret, st, hk, Ext.refl _ _, Nat.le_refl _, s, trivial⟩
  | .scope b, rd, st, K, hk, ι, a, w, s, hr => by
    simp only [codeK] at hk
    refine wpIn_scope (wpIn_mono (codeK_sound hC hE hS hL hk s hr) ?_)
    rintro e a' w' ⟨ι', e', st', hk, he, hn, s', hx⟩
    cases e' <;> cases e <;> simp only [ExR] at hx
    case goto.goto i j => exact hk.elim
    all_goals exact ⟨ι', _, st', hk, he, hn, s', hx⟩
  | .goto _, rd, st, K, hk, ι, a, w, s, hr => by cases st; exact hk.elim
  | .refuse _, rd, st, K, hk, ι, a, w, s, hr => by cases st; exact hk.elim
  | .rangeFunc f ps assign body, rd, ⟨tm, nt, df, h⟩, K, hk, ι, a, w, s, hr => by
    simp only [codeK] at hk
    obtain ⟨fv, hk, hfv⟩ := rho_ok s.tr s.gl f _ hk
    refine wpIn_rangeFunc fun fnid _ => ?_
    -- the record
    have rec_ : ∃ (h1 : Heap) (r : Nat) (mark : List Nat) (ι1 : Inj) (w1 : World) (lw : Nat), Ext ι ι1 h.nx ∧ h.nx ≤ h1.nx ∧ HR w0 O ι1 h1 w1 ∧ r < h1.nx ∧ (∀ b ∈ mark, b < h1.nx) ∧ lw = w1.heap.size ∧
        (Instr.enterLoop fnid a.tmps ps assign body (Fw (rdF ι rd)).round).run C.P w = .ok (lw, mark.map (markOf ι1)) (w1.alloc (.loop { state := .ready, pending := none, fn := fnid, tmps := a.tmps, params := ps, assign, body, defers := (ι1 r).blk })) ∧
        (h1.pushK (.loop .ready none tm nt ps.toList assign body r) fun l h2 =>
          (match fv with
            | .func (.func f) first cap => fun K1 KP1 => appK first [.func (.yield l) [] []] fun a => appK a cap fun args => E.call f args h2 K1 KP1
            | _ => fun _ _ => False)
            (fun _ h3 => h3.getK l fun
              | .loop s pend tm' nt' ps' a' b' r' => assertB (match s with | .busy => false | _ => true) (h3.setK l (.loop .exhausted pend tm' nt' ps' a' b' r') fun h4 =>
                  match pend with
                  | none => K .normal ⟨tm, nt, mark ++ df, h4⟩
                  | some .ret => K .ret ⟨tm, nt, mark ++ df, h4⟩
                  | some (.exit id) => K (.exit id) ⟨tm, nt, mark ++ df, h4⟩
                  | some _ => False)
              | _ => False)
            (fun _ _ => False)) := by
      cases rd with
      | none =>
        simp only at hk
        rw [pushK_heap] at hk
        refine ⟨_, h.nx, [h.nx], newI ι h.nx ⟨w.heap.size, 0, 0⟩, w.alloc (.deferred (some [])), w.heap.size + 1, newI_ext _ _ _, Nat.le_succ _, s.hr.push (.defd false) (.deferred (some [])) 0 0 rfl, Nat.lt_succ_self _, by simp, (World.size_alloc _ _).symm, ?_, hk⟩
        simp only [rdF, Fw, Option.map_none]
        rw [run_enterLoop_outer]
        simp [markOf]
      | some l =>
        simp only at hk
        rw [getK_heap] at hk; obtain ⟨x, hx, hk⟩ := hk
        cases x <;> simp only at hk
        rename_i st' pend' tm' nt' ps' as' b' r
        obtain ⟨o, ho, L, rfl, h1, h2, h3', h4, h5, h6, h7, h8⟩ := s.hr.get hx rfl
        refine ⟨h, r, [], ι, w, w.heap.size, Ext.refl _ _, Nat.le_refl _, s.hr, h8, by simp, rfl, ?_, hk⟩
        simp only [rdF, Fw, Option.map_some]
        rw [run_enterLoop_inner ho, h7]
        rfl
    obtain ⟨h1, r, mark, ι1, w1, lw, he1, hn1, H1, hr1, hmark, rfl, henter, hk⟩ := rec_
    rw [pushK_heap] at hk
    have hfv1 := hfv.mono he1 hn1
    have hsh : ∃ g first cap, fv = .func (.func g) first cap := by
      cases fv with
      | func fn first cap =>
        cases fn with
        | func g => exact ⟨g, first, cap, rfl⟩
        | _ => exact hk.elim
      | _ => exact hk.elim
    obtain ⟨g, first, cap, rfl⟩ := hsh
    simp only at hk
    rw [appK_iff, appK_iff] at hk
    have hx2 := newI_ext ι1 h1.nx ⟨w1.heap.size, 0, 0⟩
    have H2 := H1.push (.loop .ready none tm nt ps.toList assign body r) (.loop { state := .ready, pending := none, fn := fnid, tmps := a.tmps, params := ps, assign, body, defers := (ι1 r).blk }) 0 0
      ⟨_, rfl, rfl, rfl, (s.tr.mono he1 hn1).mono hx2 (Nat.le_succ _), rfl, rfl, rfl, by rw [hx2 r hr1], Nat.lt_succ_of_lt hr1⟩
    have hfv2 := hfv1.mono hx2 (Nat.le_succ _)
    simp only [VR] at hfv2
    obtain ⟨a', c', hcf, _, ha, hc⟩ := hfv2
    have hargs : VRs (newI ι1 h1.nx ⟨w1.heap.size, 0, 0⟩) (h1.nx + 1) ((first ++ [.func (.yield h1.nx) [] []]) ++ cap) ((a' ++ #[Value.func (.yield w1.heap.size) #[] #[]]) ++ c').toList := by
      have hy : VRs (newI ι1 h1.nx ⟨w1.heap.size, 0, 0⟩) (h1.nx + 1) [.func (.yield h1.nx) [] []] [Value.func (.yield w1.heap.size) #[] #[]] := by
        simp only [VRs, VR]
        exact ⟨_, [], rfl, ⟨#[], #[], by simp [frn], by simp [flt], rfl, rfl⟩, rfl⟩
      simp only [Array.toList_append]
      exact (ha.append hy).append hc
    obtain ⟨hcall, hcin⟩ := hE.call hk H2 ((s.gl.mono he1 hn1).mono hx2 (Nat.le_succ _)) hargs
    refine ⟨w1.heap.size, mark.map (markOf ι1), _, { target := .fn (.func g) c', args := a' ++ #[.func (.yield w1.heap.size) #[] #[]] }, _, g, _, _, henter, ?_, fun _ _ => trivial, hcall, fun hd => by simp [Fw, Fence.wide] at hd, ?_⟩
    · simp only [resolve, rangeCall, frn] at hcf ⊢
      simp only [hcf, Deferred.ofValue]
      simp [Act.eval, Sem.run_pure]
    · refine CallsIn.mono (F := Fw (rdF ι rd)) (n := 0) hcin fun e w3 he => ?_
      cases e with
      | returned cv =>
        obtain ⟨ι3, h3, v, hk, he3, hn3, H3, _⟩ := he
        have eL : (ι3 h1.nx).blk = w1.heap.size := by rw [he3 _ (Nat.lt_succ_self _)]; simp
        have heA : Ext ι1 ι3 h1.nx := hx2.trans he3 (Nat.le_succ _)
        have hnA : h1.nx ≤ h3.nx := Nat.le_trans (Nat.le_succ _) hn3
        have heB : Ext ι ι3 h.nx := he1.trans heA hn1
        have hnB : h.nx ≤ h3.nx := Nat.le_trans hn1 hnA
        obtain ⟨jump, w4, hend, hj⟩ := endLoop_out (a' := { a with defers := mark.map (markOf ι1) ++ a.defers }) (r := rdF ι rd) hk H3 (s.tr.mono heB hnB)
          (by
            simp only [List.map_append]
            rw [map_markOf hmark heA, s.df, map_markOf s.dfl heB, List.append_assoc])
          (fun b hb => by
            rcases List.mem_append.1 hb with h | h
            · exact Nat.lt_of_lt_of_le (hmark b h) hnA
            · exact Nat.lt_of_lt_of_le (s.dfl b h) hnB) (s.gl.mono heB hnB)
        rw [eL] at hend
        refine ⟨jump, w4, hend, ?_⟩
        cases jump with
        | none => exact hj.ext heB hnB
        | some c => exact wpIn_mono hj fun e a w hq => hq.ext heB hnB
      | panicked chain => obtain ⟨cv, _, _, _, _, hf, _⟩ := he; exact hf.elim
      | outgrown => exact he.elim
end Go.Am
