/- A function that defers a call of a closure, which recovers: what the abstract machine says of it holds of the model. -/
import Derived.Test.YtneeggnlgonilaaGreatDoorAmEnvB
import Derived.RecoverIn
namespace Go.Am
variable {C : Ctx} {E : Env} {w0 : World} {O : Nat → Prop} {D : List Deferred}

def DR (ι : Inj) (n : Nat) : DI → List Deferred → Prop
  | none, D => D = []
  | some (g, cap), D => ∃ c', D = [{ target := .fn (.func g) c', args := #[] }] ∧ VRs ι n cap c'.toList

theorem DR.mono {ι ι' : Inj} {n n' : Nat} {d : DI} (he : Ext ι ι' n) (hn : n ≤ n') (h : DR ι n d D) : DR ι' n' d D := by
  cases d with
  | none => exact h
  | some p =>
    obtain ⟨c', h1, h2⟩ := h
    exact ⟨c', h1, VRs.mono he hn _ _ h2⟩

def QD (C : Ctx) (w0 : World) (O : Nat → Prop) (ι : Inj) (nx : Nat) (K : DI → AExit → St → Prop) : Exit → Act → World → Prop := fun e a' w' =>
  ∃ ι' e' st' d D, K d e' st' ∧ Ext ι ι' nx ∧ nx ≤ st'.h.nx ∧ SR C w0 O D ι' st' a' w' ∧ ExR ι' st'.h.nx e' e ∧ DR ι' st'.h.nx d D

theorem Fw_none : Fw none = Fence.wide := rfl

theorem dfrK_sound (hC : CtxOK C) (hE : EnvOK C E) (hS : ShE E) {Lp : LoopSem} (hL : LoopOK C Lp) : ∀ {c : Code} {st : St} {K : DI → AExit → St → Prop}, dfrK C E Lp c st K → ∀ {ι : Inj} {a : Act} {w : World},
    SR C w0 O [] ι st a w → c.wpIn Fence.wide 0 C.P (QD C w0 O ι st.h.nx K) a w
  | .skip, st, K, hk, ι, a, w, s => by cases st; exact hk.elim
  | .label _, st, K, hk, ι, a, w, s => by cases st; exact hk.elim
  | .cond .., st, K, hk, ι, a, w, s => by cases st; exact hk.elim
  | .block .., st, K, hk, ι, a, w, s => by cases st; exact hk.elim
  | .loop _, st, K, hk, ι, a, w, s => by cases st; exact hk.elim
  | .rangeFunc .., st, K, hk, ι, a, w, s => by cases st; exact hk.elim
  | .exit _, st, K, hk, ι, a, w, s => by cases st; exact hk.elim
  | .scope _, st, K, hk, ι, a, w, s => by cases st; exact hk.elim
  | .goto _, st, K, hk, ι, a, w, s => by cases st; exact hk.elim
  | .ret, st, K, hk, ι, a, w, s => by cases st; exact hk.elim
  | .refuse _, st, K, hk, ι, a, w, s => by cases st; exact hk.elim
  | .region _ ops true, st, K, hk, ι, a, w, s => by cases st; exact hk.elim
  | .region _ ops false, ⟨tm, nt, _ :: _, h⟩, K, hk, ι, a, w, s => hk.elim
  | .region _ ops false, ⟨tm, nt, [], h⟩, K, hk, ι, a, w, s => by
    simp only [dfrK] at hk
    split at hk
    · rename_i o1 o2 hops
      split at hk
      · rename_i g a0 b d d' cargs aty e1 e2 e3 e4 e5 e6
        rw [assertB_iff] at hk; obtain ⟨hb, hk⟩ := hk
        simp only [Bool.and_eq_true] at hb
        obtain ⟨⟨hb1, hb2⟩, hb3⟩ := hb
        have hdd : d = d' := Nat.eq_of_beq_eq_true hb1
        subst hdd
        have ha0 : a0 = #[] := Array.eq_empty_of_size_eq_zero (by simpa using Nat.eq_of_beq_eq_true hb2)
        have hca : cargs = #[] := Array.eq_empty_of_size_eq_zero (by simpa using Nat.eq_of_beq_eq_true hb3)
        subst ha0 hca
        obtain ⟨cap, hk, hback⟩ := sh_mapK (f := rhoOf C tm) (fun x => sh_rho tm x) b.toList _ hk
        obtain ⟨tm', hk, hlk, hdn, htr⟩ := putTm_elim (n := 0) hk
        have hop : opK C E o1 (rhoOf C tm) h (fun v h' => v = .func (.func g) [] cap ∧ h' = h) (fun _ _ => False) := by
          unfold opK
          rw [e1]
          exact hback (fun b => AV.func (.func g) [] b = .func (.func g) [] cap ∧ h = h) ⟨rfl, rfl⟩
        refine wpIn_region_list ?_
        rw [hops]
        have hw1 : Region.wanted o1 (yielded ops a.tmps) = true := by simp [Region.wanted, e3]
        simp only [wpListIn, hw1, if_true]
        refine op_wpIn (r := none) hE hop s.hr s.tr s.gl ?_ (fun cv w' hd => by obtain ⟨_, _, _, hf, _⟩ := hd; exact hf.elim)
        rintro cv w' ⟨ι', h', v, ⟨rfl, rfl⟩, he, hn, H', hv⟩
        simp only [VR] at hv
        obtain ⟨a', c', hcv, _, hva, hvc⟩ := hv
        have ha' : a' = #[] := by
          have := hva.length
          exact Array.eq_empty_of_size_eq_zero (by simpa using this)
        subst ha'
        simp only [frn] at hcv
        have hw2 : Region.wanted o2 (yielded ops (a.put o1.dst cv).tmps) = true := by simp [Region.wanted, e6]
        simp only [hw2, if_true]
        have hT := htr ι' h'.nx a cv (s.tr.mono he hn) (by rw [hcv]; exact ⟨#[], c', rfl, trivial, rfl, hvc⟩)
        have hev : (a.put o1.dst cv).eval (.tmp d) = cv := by
          have hlt : d < a.tmps.size := by rw [s.tr.1]; exact hdn d rfl
          simp [Act.eval, e2, Act.put, hlt]
        refine ⟨fun _ _ => trivial, ?_⟩
        have hro : Fence.wide.round = none := rfl
        rw [hro, Oper.semAt_none]
        have hex : (execOp (a.put o1.dst cv).eval o2).run C.P w' = .ok (.defer { target := .fn (.func g) c', args := #[] }) w' := by
          unfold execOp
          rw [e4]
          rw [hcv] at hev
          simp [resolve, hev, hcv, Deferred.ofValue]
        rw [hex, Oper.uponIn_defer]
        refine ⟨ι', .normal, ⟨tm', nt, [], h'⟩, some (g, cap), [{ target := .fn (.func g) c', args := #[] }], hk, he, hn, ⟨H', ?_, ?_, (fun x hx => by cases hx), s.gl.mono he hn⟩, trivial, c', rfl, hvc⟩
        · rw [e5]; rw [e2]; exact hT
        · have hd0 := s.df
          simp only [List.map_nil, List.append_nil] at hd0
          rw [e5]
          show ({ target := .fn (.func g) c', args := #[] } : Deferred) :: (a.put o1.dst cv).defers = _
          rw [put_defers, hd0]; rfl
      · exact hk.elim
    · exact hk.elim
  | .seq x y, st, K, hk, ι, a, w, s => by
    simp only [dfrK] at hk
    cases hd : hasDefer x with
    | true =>
      rw [hd, cond_true] at hk
      refine wpIn_seq (wpIn_mono (dfrK_sound hC hE hS hL hk s) ?_)
      rintro e a' w' ⟨ι', e', st', d, D, hk, he, hn, s', hx, hdr⟩
      cases e' <;> cases e <;> simp only [ExR] at hx
      · refine wpIn_mono (codeK_sound hC hE hS hL (rd := none) hk s' (fun l hl => by cases hl)) ?_
        rintro e a2 w2 ⟨ι2, e2, st2, hk, he2, hn2, s2, hx2⟩
        exact ⟨ι2, e2, st2, d, D, hk, he.trans he2 hn, Nat.le_trans hn hn2, s2, hx2, hdr.mono he2 hn2⟩
      all_goals exact ⟨ι', _, st', d, D, hk, he, hn, s', hx, hdr⟩
    | false =>
      rw [hd, cond_false] at hk
      refine wpIn_seq (wpIn_mono (codeK_sound hC hE hS hL (rd := none) hk s (fun l hl => by cases hl)) ?_)
      rintro e a' w' ⟨ι', e', st', hk, he, hn, s', hx⟩
      cases e' <;> cases e <;> simp only [ExR] at hx
      · refine wpIn_mono (dfrK_sound hC hE hS hL hk s') ?_
        rintro e a2 w2 ⟨ι2, e2, st2, d, D, hk, he2, hn2, s2, hx2, hdr⟩
        exact ⟨ι2, e2, st2, d, D, hk, he.trans he2 hn, Nat.le_trans hn hn2, s2, hx2, hdr⟩
      all_goals exact ⟨ι', _, st', none, [], hk, he, hn, s', hx, rfl⟩

/-- The mode in which the deferred call runs. -/
def MD (ι : Inj) (n : Nat) (md : Option AV) (u u' : FrameMode) (cv : Value) : Prop := match md with
  | none => u = .returning ∧ u' = .returning ∧ cv = .nilIface
  | some v => u = .panicking [{ v := cv, recovered := false }] ∧ u' = .panicking [{ v := cv, recovered := true }] ∧ VR ι n v cv

theorem MD.settle {ι : Inj} {n : Nat} {md : Option AV} {u u' : FrameMode} {cv : Value} (h : MD ι n md u u' cv) : settle u' = .returning := by
  cases md with
  | none => rw [h.2.1]; rfl
  | some v => rw [h.2.1]; rfl

theorem MD.rec {ι : Inj} {n : Nat} {md : Option AV} {u u' : FrameMode} {cv : Value} (h : MD ι n md u u' cv) {c₀ : Frame} {cs : List Frame} (hc : c₀.mode = u) :
    (match recoverD (c₀ :: cs) with | some (v, cs') => (v, cs') | none => (.nilIface, c₀ :: cs)) = (cv, { c₀ with mode := u' } :: cs) := by
  cases md with
  | none =>
    obtain ⟨h1, h2, h3⟩ := h
    subst h1 h3
    simp only [recoverD, hc]
    rw [h2, ← hc]
  | some v =>
    obtain ⟨h1, h2, h3⟩ := h
    subst h1
    simp only [recoverD, hc]
    rw [h2]

theorem recK_sound (hC : CtxOK C) (hE : EnvOK C E) (hS : ShE E) {Lp : LoopSem} (hL : LoopOK C Lp) {md : Option AV} {u u' : FrameMode} {cvr : Value} {c₀ : Frame} {cs : List Frame} (hc : c₀.mode = u) : ∀ {c : Code} {st : St} {K : AExit → St → Prop}, recK C E Lp md c st K → ∀ {ι : Inj} {a : Act} {w : World},
    SR C w0 O [] ι st a w → MD ι st.h.nx md u u' cvr → c.wpSIn Fence.wide 0 C.P (fun e a' cs' w' => cs' = { c₀ with mode := u' } :: cs ∧ QK C w0 O [] ι st.h.nx K e a' w') a (c₀ :: cs) w
  | .skip, st, K, hk, ι, a, w, s, hm => by cases st; exact hk.elim
  | .label _, st, K, hk, ι, a, w, s, hm => by cases st; exact hk.elim
  | .cond .., st, K, hk, ι, a, w, s, hm => by cases st; exact hk.elim
  | .block .., st, K, hk, ι, a, w, s, hm => by cases st; exact hk.elim
  | .loop _, st, K, hk, ι, a, w, s, hm => by cases st; exact hk.elim
  | .rangeFunc .., st, K, hk, ι, a, w, s, hm => by cases st; exact hk.elim
  | .exit _, st, K, hk, ι, a, w, s, hm => by cases st; exact hk.elim
  | .scope _, st, K, hk, ι, a, w, s, hm => by cases st; exact hk.elim
  | .goto _, st, K, hk, ι, a, w, s, hm => by cases st; exact hk.elim
  | .ret, st, K, hk, ι, a, w, s, hm => by cases st; exact hk.elim
  | .refuse _, st, K, hk, ι, a, w, s, hm => by cases st; exact hk.elim
  | .region _ ops true, st, K, hk, ι, a, w, s, hm => by cases st; exact hk.elim
  | .region _ ops false, ⟨tm, nt, df, h⟩, K, hk, ι, a, w, s, hm => by
    simp only [recK] at hk
    split at hk
    · rename_i o1 o2 hops
      split at hk
      · rename_i cargs aty d d' d2 e1 e2 e3 e4 e5 e6
        rw [assertB_iff] at hk; obtain ⟨hb, hk⟩ := hk
        simp only [Bool.and_eq_true] at hb
        obtain ⟨⟨hb1, hb2⟩, hb3⟩ := hb
        have hdd : d = d' := Nat.eq_of_beq_eq_true hb1
        subst hdd
        have hd1 : d < nt := Nat.le_of_ble_eq_true hb2
        have hd2 : d2 < nt := Nat.le_of_ble_eq_true hb3
        have hkv : ∃ v, VR ι h.nx v cvr ∧ K .normal ⟨(d2, v) :: (d, v) :: tm, nt, df, h⟩ := by
          cases md with
          | none => obtain ⟨_, _, h3⟩ := hm; exact ⟨.nili, h3, hk⟩
          | some v => obtain ⟨_, _, h3⟩ := hm; exact ⟨v, h3, hk⟩
        obtain ⟨v, hv, hk⟩ := hkv
        refine wpSIn_region ?_
        have hsz : ops.size = 2 := by rw [← Array.length_toList, hops]; rfl
        have ho1 : ops[0]? = some o1 := by rw [← Array.getElem?_toList, hops]; rfl
        have ho2 : ops[1]? = some o2 := by rw [← Array.getElem?_toList, hops]; rfl
        rw [hsz, show List.range 2 = [0, 1] from rfl]
        have hw1 : Region.wanted o1 (yielded ops a.tmps) = true := by simp [Region.wanted, e3]
        have hx1 : (execOp a.eval o1).run C.P w = .ok .recover w := by
          unfold execOp
          rw [e1]
          rfl
        have hrec := hm.rec (cs := cs) hc
        have T1 : TR ι h.nx ((d, v) :: tm) nt (a.put (some d) cvr).tmps := by
          obtain ⟨tm', hk', _, _, ht⟩ := putTm_elim (n := 0) (nt := nt) (tm := tm) (dst := some d) (v := v) (k := fun t => t = (d, v) :: tm) (by simp only [putTm]; rw [assertB_iff]; exact ⟨hb2, trivial⟩)
          subst hk'
          exact ht ι h.nx a cvr s.tr hv
        have T2 : TR ι h.nx ((d2, v) :: (d, v) :: tm) nt ((a.put (some d) cvr).put (some d2) cvr).tmps := by
          obtain ⟨tm', hk', _, _, ht⟩ := putTm_elim (n := 0) (nt := nt) (tm := (d, v) :: tm) (dst := some d2) (v := v) (k := fun t => t = (d2, v) :: (d, v) :: tm) (by simp only [putTm]; rw [assertB_iff]; exact ⟨hb3, trivial⟩)
          subst hk'
          exact ht ι h.nx (a.put (some d) cvr) cvr T1 hv
        have hw2 : Region.wanted o2 (yielded ops (a.put (some d) cvr).tmps) = true := by simp [Region.wanted, e6]
        have hev : (a.put (some d) cvr).eval (.tmp d) = cvr := by
          have hlt : d < a.tmps.size := by rw [s.tr.1]; exact hd1
          simp [Act.eval, Act.put, hlt]
        have hx2 : (execOp (a.put (some d) cvr).eval o2).run C.P w = .ok (.value cvr) w := by
          unfold execOp
          rw [e4]
          simp [hev]
        have last : wpOpsSIn Fence.wide 0 C.P ops (fun e a' cs' w' => cs' = { c₀ with mode := u' } :: cs ∧ QK C w0 O [] ι h.nx K e a' w') [1] (a.put o1.dst cvr) ({ c₀ with mode := u' } :: cs) w := by
          rw [e2]
          simp only [wpOpsSIn, ho2, hw2, if_true, hx2, e5]
          refine ⟨fun _ _ => trivial, trivial, ι, .normal, _, hk, Ext.refl _ _, Nat.le_refl _, ⟨s.hr, T2, ?_, s.dfl, s.gl⟩, trivial⟩
          rw [put_defers, put_defers]; exact s.df
        rw [wpOpsSIn]
        simp only [ho1, hw1, if_true, hx1]
        refine ⟨fun _ _ => trivial, ?_⟩
        cases hr : recoverD (c₀ :: cs) with
        | some p =>
          obtain ⟨v', cs'⟩ := p
          rw [hr] at hrec
          simp only [Prod.mk.injEq] at hrec
          simp only
          rw [hrec.1, hrec.2]
          exact last
        | none =>
          rw [hr] at hrec
          simp only [Prod.mk.injEq] at hrec
          simp only
          rw [← hrec.1] at last
          rw [hrec.2]
          exact last
      · exact hk.elim
    · exact hk.elim
  | .seq x y, st, K, hk, ι, a, w, s, hm => by
    simp only [recK] at hk
    refine wpSIn_seq ?_
    have h1 := recK_sound hC hE hS hL (cs := cs) hc hk s hm
    intro b k hb hr hF hroom
    obtain ⟨e, a', cs', w', hl, ⟨hcs, ι', e', st', hk, he, hn, s', hx⟩, harr⟩ := h1 b k hb hr hF hroom
    refine ⟨e, a', cs', w', hl, ?_, harr⟩
    cases e' <;> cases e <;> simp only [ExR] at hx
    · subst hcs
      show y.wpSIn Fence.wide 0 C.P _ _ _ _
      refine wpSIn_of_wpIn rfl ?_
      refine wpIn_mono (codeK_sound hC hE hS hL (rd := none) hk s' (fun l hl => by cases hl)) ?_
      rintro e a2 w2 hq
      exact ⟨rfl, hq.ext he hn⟩
    all_goals exact ⟨hcs, ι', _, st', hk, he, hn, s', hx⟩

theorem callFunc_run (hC : CtxOK C) {f : FuncId} {fn : Func} {body : Code} (hfn : C.P.funcs[f]? = some fn) (hbody : fn.body = some body) (args : Array Value) (w : World) : (callFunc f args).run C.P w = .ok (.enter f args) w := by
  have hg : ¬ fn.name = "runtime.NumGoroutine" := by simpa using hC.gor f fn hfn
  simp [callFunc, hfn, hg, hbody]

theorem args_tr {ι : Inj} {n nt : Nat} {args : List AV} {cargs : Array Value} (hv : VRs ι n args cargs.toList) (hle : args.length ≤ nt) : TR ι n (bindArgs 0 args) nt (cargs ++ Array.replicate (nt - cargs.size) undef) := by
  have hlen : cargs.size = args.length := by simpa using hv.length
  refine ⟨by simp; omega, fun j v hj => ?_⟩
  obtain ⟨_, cv, h1, h2⟩ := bind_tr hv j v hj
  refine ⟨cv, ?_, h2⟩
  rw [Nat.sub_zero] at h1
  have hj' : j < cargs.size := by
    rcases Nat.lt_or_ge j cargs.size with h | h
    · exact h
    · rw [List.getElem?_eq_none (by simpa using h)] at h1; cases h1
  rw [Array.getElem?_append_left hj', ← Array.getElem?_toList]
  exact h1

theorem recCall_out (hC : CtxOK C) (hE : EnvOK C E) (hS : ShE E) {Lp : LoopSem} (hL : LoopOK C Lp) {md : Option AV} {u u' : FrameMode} {cvr : Value} {g : FuncId} {cap : List AV} {h : Heap} {K : Heap → Prop} (hk : recCall C E Lp g cap md h K)
    {ι : Inj} {w : World} {cargs : Array Value} (H : HR w0 O ι h w) (G : GlobOK C ι h.nx) (hv : VRs ι h.nx cap cargs.toList) (hm : MD ι h.nx md u u' cvr) :
    (callFunc g cargs).run C.P w = .ok (.enter g cargs) w ∧ CallsDIn Fence.wide 0 C.P g cargs u w fun e u2 w' => ∃ v, e = .returned v ∧ u2 = u' ∧ ∃ ι' h', K h' ∧ Ext ι ι' h.nx ∧ h.nx ≤ h'.nx ∧ HR w0 O ι' h' w' := by
  unfold recCall at hk
  rw [optK_iff] at hk; obtain ⟨fn, hfn, hk⟩ := hk
  rw [optK_iff] at hk; obtain ⟨body, hbody, hk⟩ := hk
  rw [lenN_iff, assertB_iff] at hk; obtain ⟨hle, hk⟩ := hk
  have hle := Nat.le_of_ble_eq_true hle
  rw [Nat.zero_add] at hle
  refine ⟨callFunc_run hC hfn hbody _ _, callsDIn_of_wpSIn hfn hbody trivial fun c₀ cs hc => ?_⟩
  have s : SR C w0 O [] ι ⟨bindArgs 0 cap, fn.ntmps, [], h⟩ { tmps := cargs ++ Array.replicate (fn.ntmps - cargs.size) undef, defers := [] } w := ⟨H, args_tr hv hle, rfl, fun b hb => by simp at hb, G⟩
  have h1 := recK_sound hC hE hS hL (cs := cs) hc hk s hm
  intro b k hb hr hF hroom
  obtain ⟨e, a', cs', w', hl, ⟨hcs, ι', e', st', hk, he, hn, s', hx⟩, harr⟩ := h1 b k hb hr hF hroom
  refine ⟨e, a', cs', w', hl, ?_, harr⟩
  obtain ⟨tm, nt, df, h2⟩ := st'
  have fin : (resultsK C fn tm h2 fun _ => K h2) → df = [] → a'.defers = [] ∧ ∃ u2, cs' = { c₀ with mode := u2 } :: cs ∧ ∃ v, (results fn a'.tmps).run C.P w' = .ok v w' ∧ ∃ v', Ending.returned v = .returned v' ∧ u2 = u' ∧ ∃ ι' h', K h' ∧ Ext ι ι' h.nx ∧ h.nx ≤ h'.nx ∧ HR w0 O ι' h' w' := by
    intro hkx hd
    subst hd
    obtain ⟨v, cv, hky, hv, hres⟩ := resultsK_elim hkx s'.hr s'.tr
    exact ⟨by have := s'.df; simpa using this, u', hcs, cv, hres, cv, rfl, rfl, ι', h2, hky, he, hn, s'.hr⟩
  cases e' <;> cases df <;> first | exact hk.elim | skip
  all_goals cases e <;> simp only [ExR] at hx
  · exact fin hk rfl
  · exact fin hk rfl

theorem dfrCall_ok (hC : CtxOK C) (hE : EnvOK C E) (hS : ShE E) {Lp : LoopSem} (hL : LoopOK C Lp) {f : FuncId} {args : List AV} {h : Heap} {K KP : KR} (hk : dfrCall C E Lp f args h K KP)
    {ι : Inj} {w : World} {cargs : Array Value} (H : HR w0 O ι h w) (G : GlobOK C ι h.nx) (hv : VRs ι h.nx args cargs.toList) :
    (callFunc f cargs).run C.P w = .ok (.enter f cargs) w ∧ CallsIn Fence.wide 0 C.P f cargs w (CallRes w0 O ι h K KP) := by
  unfold dfrCall at hk
  rw [optK_iff] at hk; obtain ⟨fn, hfn, hk⟩ := hk
  rw [optK_iff] at hk; obtain ⟨body, hbody, hk⟩ := hk
  rw [lenN_iff, assertB_iff] at hk; obtain ⟨hle, hk⟩ := hk
  have hle := Nat.le_of_ble_eq_true hle
  rw [Nat.zero_add] at hle
  refine ⟨callFunc_run hC hfn hbody _ _, callsIn_of_wp_marks hfn hbody trivial ?_⟩
  have s : SR C w0 O [] ι ⟨bindArgs 0 args, fn.ntmps, [], h⟩ { tmps := cargs ++ Array.replicate (fn.ntmps - cargs.size) undef, defers := [] } w := ⟨H, args_tr hv hle, rfl, fun b hb => by simp at hb, G⟩
  refine wpIn_mono (F := Fence.wide) (dfrK_sound hC hE hS hL hk s) ?_
  rintro e a' w' ⟨ι', e', ⟨tm', nt', df', h'⟩, d, D, hk, he, hn, s', hx, hdr⟩
  cases d with
  | none =>
    have hD : D = [] := hdr
    subst hD
    have hd := s'.df
    rw [List.append_nil] at hd
    have hk : callEnd C fn K KP e' ⟨tm', nt', df', h'⟩ := hk
    cases e' <;> cases e <;> simp only [ExR] at hx <;> simp only [callEnd] at hk
    · simp only [bodyPostM]; rw [hd]; exact leaves_out hk s'.hr s'.tr he hn
    · simp only [bodyPostM]; rw [hd]; exact leaves_out hk s'.hr s'.tr he hn
    · cases df' <;> first | exact hk.elim | skip
      obtain ⟨cv, rfl, hvr⟩ := hx
      simp only [bodyPostM]; rw [hd]
      exact ⟨cv, rfl, ι', h', _, hk, he, hn, s'.hr, hvr⟩
  | some p =>
    obtain ⟨g, cap⟩ := p
    obtain ⟨c', hD, hcap⟩ := hdr
    subst hD
    have fin : ∀ {md : Option AV} {u u' : FrameMode} {cvr : Value}, df' = [] → (recCall C E Lp g cap md h' fun h'' => resultsK C fn tm' h'' fun v => K v h'') → MD ι' h'.nx md u u' cvr → u ≠ .run → LeavesInM Fence.wide 0 C.P fn a'.tmps (CallRes w0 O ι h K KP) a'.defers u w' := by
      intro md u u' cvr hd hkx hm hu
      subst hd
      have hdf := s'.df
      simp only [List.map_nil, List.nil_append] at hdf
      rw [hdf]
      obtain ⟨h1, h2⟩ := recCall_out (cargs := #[] ++ c') hC hE hS hL hkx s'.hr s'.gl (by simpa using hcap) hm
      refine ⟨hu, .inr ⟨fun hd => by simp [Fence.wide] at hd, .func g, c', g, #[] ++ c', rfl, by simpa [invoke] using h1, fun _ _ => trivial, ?_⟩⟩
      obtain ⟨hF, h2⟩ := h2
      refine ⟨hF, fun c cs hcm hroom => ?_⟩
      obtain ⟨e, u2, w2, fr, ⟨v, rfl, hu2, ι2, h2', hky, he2, hn2, H2⟩, hrest⟩ := h2 c cs hcm hroom
      refine ⟨.returned v, u2, w2, fr, ?_, hrest⟩
      subst hu2
      show LeavesInM Fence.wide 0 C.P fn a'.tmps _ [] (settle u2) w2
      rw [hm.settle]
      obtain ⟨v2, cv2, hkz, hv2, hr2⟩ := resultsK_elim hky H2 (s'.tr.mono he2 hn2)
      exact ⟨cv2, hr2, ι2, h2', v2, hkz, he.trans he2 hn, Nat.le_trans hn hn2, H2, hv2⟩
    cases e' <;> cases df' <;> first | exact hk.elim | skip
    all_goals cases e <;> simp only [ExR] at hx
    · exact fin rfl hk (u := .returning) (u' := .returning) (cvr := .nilIface) ⟨rfl, rfl, rfl⟩ (by simp)
    · exact fin rfl hk (u := .returning) (u' := .returning) (cvr := .nilIface) ⟨rfl, rfl, rfl⟩ (by simp)
    · obtain ⟨cv, rfl, hvr⟩ := hx
      exact fin rfl hk ⟨rfl, rfl, hvr⟩ (by simp)
end Go.Am
