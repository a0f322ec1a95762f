/- One operation, whatever it is. -/
import Derived.Test.YtneeggnlgonilaaGreatDoorAmOpH
namespace Go.Am
variable {C : Ctx} {ι : Inj} {w0 : World} {O : Nat → Prop} {h : Heap} {w : World}

/-- How a call ends. -/
def CallRes (w0 : World) (O : Nat → Prop) (ι : Inj) (h : Heap) (K KP : KR) : Ending → World → Prop
  | .returned cv, w' => Done w0 O ι h K cv w'
  | .panicked chain, w' => ∃ cv, chain = [{ v := cv, recovered := false }] ∧ Done w0 O ι h KP cv w'
  | .outgrown, _ => False

/-- The program's own variables, where the abstract heap has them. -/
def GlobOK (C : Ctx) (ι : Inj) (n : Nat) : Prop := ∀ g b, lookupB C.glob g = some b → b < n ∧ (ι b).blk = g
theorem GlobOK.mono {ι' : Inj} {n n' : Nat} (hg : GlobOK C ι n) (he : Ext ι ι' n) (hn : n ≤ n') : GlobOK C ι' n' := fun g b hb => ⟨Nat.lt_of_lt_of_le (hg g b hb).1 hn, by rw [he b (hg g b hb).1]; exact (hg g b hb).2⟩

structure EnvOK (C : Ctx) (E : Env) : Prop where
  call : ∀ {f : FuncId} {args : List AV} {h : Heap} {K KP : KR}, E.call f args h K KP → ∀ {w0 : World} {O : Nat → Prop} {ι : Inj} {w : World} {cargs : Array Value}, HR w0 O ι h w → GlobOK C ι h.nx → VRs ι h.nx args cargs.toList →
    (callFunc f cargs).run C.P w = .ok (.enter f cargs) w ∧ CallsIn Fence.wide 0 C.P f cargs w (CallRes w0 O ι h K KP)
  round : ∀ {l : Nat} {args : List AV} {h : Heap} {K : KR}, E.round l args h K → ∀ {w0 : World} {O : Nat → Prop} {ι : Inj} {w : World} {cargs : Array Value}, HR w0 O ι h w → GlobOK C ι h.nx → VRs ι h.nx args cargs.toList →
    ∃ f tmps assign body, (Instr.yield (ι l).blk cargs).run C.P w = .ok (.round (ι l).blk f tmps assign body) w ∧ RoundIn Fence.wide 0 C.P (ι l).blk f tmps assign body w (CallRes w0 O ι h K (fun _ _ => False))

/-- What the machine does with an operation's result. -/
def OpOut (P : Program) (R RP : Value → World → Prop) : Result Next → Prop
  | .ok (.value v) w' => R v w'
  | .ok .skip w' => R Go.undef w'
  | .ok (.enter f args) w' => CallsIn Fence.wide 0 P f args w' fun
      | .returned v, w'' => R v w''
      | .panicked chain, w'' => ∃ v, chain = [{ v, recovered := false }] ∧ RP v w''
      | .outgrown, _ => False
  | .ok (.round l f tmps assign body) w' => RoundIn Fence.wide 0 P l f tmps assign body w' fun
      | .returned v, w'' => R v w''
      | .panicked chain, w'' => ∃ v, chain = [{ v, recovered := false }] ∧ RP v w''
      | .outgrown, _ => False
  | .halt (.panic v) w' => RP v w'
  | _ => False

/-- The operands, as the abstract machine has them, against the frame's. -/
def RhoR (ι : Inj) (n : Nat) (ρ : Rho) (cρ : Operand → Value) (x : Operand) : Prop := ∀ k : AV → Prop, ρ x k → ∃ v, k v ∧ VR ι n v (cρ x)

theorem mapK_ops {n : Nat} {ρ : Rho} {cρ : Operand → Value} : ∀ {xs : List Operand} {k : List AV → Prop}, mapK ρ xs k → (∀ x ∈ xs, RhoR ι n ρ cρ x) → ∃ vs, k vs ∧ VRs ι n vs (xs.map cρ)
  | [], k, hk, _ => ⟨[], hk, rfl⟩
  | x :: xs, k, hk, hx => by
    obtain ⟨v, hk, hv⟩ := hx x (by simp) _ hk
    obtain ⟨vs, hk, hvs⟩ := mapK_ops hk fun y hy => hx y (by simp [hy])
    exact ⟨v :: vs, hk, _, _, rfl, hv, hvs⟩

theorem mapK_parts {n : Nat} {ρ : Rho} {cρ : Operand → Value} : ∀ {xs : List (Nat × Operand)} {k : List (Nat × AV) → Prop}, mapK (fun (p : Nat × Operand) k => ρ p.2 fun x => k (p.1, x)) xs k → (∀ p ∈ xs, RhoR ι n ρ cρ p.2) →
    ∃ vs, k vs ∧ vs.length = xs.length ∧ ∀ (q : Nat) (p : Nat × AV), vs[q]? = some p → ∃ cp : Nat × Value, (xs.map fun (i, x) => (i, cρ x))[q]? = some cp ∧ cp.1 = p.1 ∧ VR ι n p.2 cp.2
  | [], k, hk, _ => ⟨[], hk, rfl, fun q p h => by simp at h⟩
  | (i, x) :: xs, k, hk, hx => by
    simp only [mapK] at hk
    obtain ⟨v, hk, hv⟩ := hx (i, x) (by simp) _ hk
    obtain ⟨vs, hk, hl, hvs⟩ := mapK_parts hk fun y hy => hx y (by simp [hy])
    refine ⟨(i, v) :: vs, hk, by simp [hl], fun q p hq => ?_⟩
    cases q with
    | zero => simp at hq; subst hq; exact ⟨(i, cρ x), rfl, rfl, hv⟩
    | succ q => simpa using hvs q p (by simpa using hq)

section
variable {E : Env} {o : Oper} {ρ : Rho} {cρ : Operand → Value} {K KP : KR}

theorem out_value {P : Program} {R RP : Value → World → Prop} {s : Sem Value} {cv : Value} {w w' : World} (hr : s.run P w = .ok cv w') (h : R cv w') : OpOut P R RP ((do pure (.value (← s)) : Sem Next).run P w) := by
  simp only [Sem.run_bind, hr, Result.andThen_ok, Sem.run_pure]; exact h

theorem applyK_out (hE : EnvOK C E) {f : AV} {vs : List AV} (hk : applyK E f vs h K KP) (H : HR w0 O ι h w) (G : GlobOK C ι h.nx) {cf : Value} {cvs : Array Value} (hf : VR ι h.nx f cf) (hv : VRs ι h.nx vs cvs.toList) :
    ∃ d, (Deferred.ofValue cf cvs : Sem Deferred).run C.P w = .ok d w ∧ OpOut C.P (Done w0 O ι h K) (Done w0 O ι h KP) ((invoke d.target d.args).run C.P w) := by
  unfold applyK at hk
  split at hk
  · rename_i f first cap
    simp only [VR] at hf
    obtain ⟨a', c', rfl, _, ha, hc⟩ := hf
    rw [appK_iff, appK_iff] at hk
    have hargs : VRs ι h.nx ((first ++ vs) ++ cap) ((a' ++ cvs) ++ c').toList := by simpa using (ha.append hv).append hc
    obtain ⟨h1, h2⟩ := hE.call hk H G hargs
    refine ⟨{ target := .fn (.func f) c', args := a' ++ cvs }, rfl, ?_⟩
    simp only [invoke, h1]
    exact h2.mono fun e w' he => by cases e <;> exact he
  · rename_i l cap
    simp only [VR] at hf
    obtain ⟨a', c', rfl, _, ha, hc⟩ := hf
    have ha0 : a' = #[] := by
      have := ha.length
      exact Array.eq_empty_of_size_eq_zero (by simpa using this)
    subst ha0
    obtain ⟨f, tmps, assign, body, h1, h2⟩ := hE.round hk H G hv
    refine ⟨{ target := .fn (.yield (ι l).blk) c', args := #[] ++ cvs }, rfl, ?_⟩
    simp only [invoke, Array.empty_append, h1]
    refine h2.mono fun e w' he => ?_
    cases e with
    | returned v => exact he
    | panicked chain => obtain ⟨cv, _, ι', h', v, hf, _⟩ := he; exact hf.elim
    | outgrown => exact he
  · exact hk.elim

theorem oK_elim {n : Nat} {lo : Option Operand} {clo : Option Value} {k : Option AV → Prop} (hx : ∀ x, lo = some x → RhoR ι n ρ cρ x) (hc : clo = lo.map cρ) (hk : opK.oK ρ lo k) : ∃ v, k v ∧ OR ι n v clo := by
  subst hc
  cases lo with
  | none => exact ⟨none, hk, trivial⟩
  | some x =>
    obtain ⟨v, hk, hv⟩ := hx x rfl _ hk
    exact ⟨some v, hk, hv⟩

theorem slice3K_elim {n : Nat} {t : TypeId} {x : AV} {lo : Option AV} {hi mx : AV} {V : KV} (hk : opK.slice3K C t x lo hi mx V) {cx chi cmx : Value} {clo : Option Value} (hx : VR ι n x cx) (hl : OR ι n lo clo) (hh : VR ι n hi chi) (hm : VR ι n mx cmx) :
    ∃ v cv, V v ∧ VR ι n v cv ∧ ∀ w, (Instr.sliceAt t cx clo (some chi) (some cmx)).run C.P w = .ok cv w := by
  unfold opK.slice3K at hk
  split at hk
  · cases clo <;> simp only [OR] at hl
    simp only [VR] at hx hh hm; subst hx hh hm
    rw [underK_iff] at hk; obtain ⟨d, hd, hk⟩ := hk
    cases d <;> simp only at hk
    rw [infoK_iff] at hk; obtain ⟨inf, hi, hk⟩ := hk
    exact ⟨_, .slice none 0 0, hk, rfl, fun w => by simp [Instr.sliceAt, Instr.slice, run_underlying hd, Instr.sliceBounds, Instr.sliceBound, asIntOf, sizeOf, run_info hi]⟩
  · cases clo <;> simp only [OR] at hl
    simp only [VR] at hx hh hm; subst hh hm
    obtain ⟨_, _, _, a, ha, _, rfl⟩ := hx
    rw [underK_iff] at hk; obtain ⟨d, hd, hk⟩ := hk
    cases d <;> simp only at hk
    rw [infoK_iff] at hk; obtain ⟨inf, hi, hk⟩ := hk
    exact ⟨_, .slice (some a) 0 0, hk, ⟨a, ha, rfl⟩, fun w => by simp [Instr.sliceAt, Instr.slice, run_underlying hd, Instr.sliceBounds, Instr.sliceBound, asIntOf, sizeOf, run_info hi]⟩
  · cases clo <;> simp only [OR] at hl
    simp only [VR] at hx hh hm; subst hh hm
    obtain ⟨a, ha, rfl⟩ := hx
    rw [underK_iff] at hk; obtain ⟨d, hd, hk⟩ := hk
    cases d <;> simp only at hk
    rw [infoK_iff] at hk; obtain ⟨inf, hi, hk⟩ := hk
    exact ⟨_, .slice (some a) 0 0, hk, ⟨a, ha, rfl⟩, fun w => by simp [Instr.sliceAt, Instr.slice, run_underlying hd, Instr.sliceBounds, Instr.sliceBound, asIntOf, sizeOf, run_info hi]⟩
  · exact hk.elim

theorem builtinK_out {b : Builtin} {argTypes : Array TypeId} {ty : TypeId} {consts : Array Bool} {vs : List AV} (hk : builtinK C b argTypes vs h K) (H : HR w0 O ι h w) {cvs : Array Value} (hv : VRs ι h.nx vs cvs.toList) {RP : Value → World → Prop} :
    OpOut C.P (Done w0 O ι h K) RP ((builtin b argTypes ty consts cvs).run C.P w) := by
  unfold builtinK at hk
  split at hk
  · rename_i s x
    obtain ⟨cs, _, e1, hs, cx, _, e2, hx, e3⟩ := hv
    have e : cvs = #[cs, cx] := by rw [← Array.toList_inj, e1, e2, e3]
    subst e
    obtain ⟨cv, w', hr, hd⟩ := appendK_elim (ty := ty) hk H hs hx
    exact out_value hr hd
  · rename_i s x
    obtain ⟨cs, _, e1, hs, cx, _, e2, hx, e3⟩ := hv
    have e : cvs = #[cs, cx] := by rw [← Array.toList_inj, e1, e2, e3]
    subst e
    obtain ⟨cv, w', hr, hd⟩ := copyK_elim (ty := ty) hk H hs hx
    exact out_value hr hd
  · rename_i x
    obtain ⟨cs, _, e1, hs, e3⟩ := hv
    have e : cvs = #[cs] := by rw [← Array.toList_inj, e1, e3]
    subst e
    obtain ⟨v, cv, hk, hv, hr, _⟩ := lenK_elim (ty := ty) hk H hs
    exact out_value hr (Done.here H hk hv)
  · unfold minMaxK at hk
    split at hk
    · rename_i k a r
      simp only [VRs, VR] at hv
      obtain ⟨cs, ys, e1, rfl, hv⟩ := hv
      obtain ⟨r, hk, hr⟩ := minMaxFrom_elim hk hv
      refine out_value (cv := .int k r) (w' := w) ?_ (Done.here H hk rfl)
      have := hr w
      simpa [Builtin.min_, e1] using this
    · exact hk.elim
  · unfold minMaxK at hk
    split at hk
    · rename_i k a r
      simp only [VRs, VR] at hv
      obtain ⟨cs, ys, e1, rfl, hv⟩ := hv
      obtain ⟨r, hk, hr⟩ := minMaxFrom_elim hk hv
      refine out_value (cv := .int k r) (w' := w) ?_ (Done.here H hk rfl)
      have := hr w
      simpa [Builtin.max_, e1] using this
    · exact hk.elim
  · exact hk.elim

theorem opK_out (hE : EnvOK C E) (hk : opK C E o ρ h K KP) (H : HR w0 O ι h w) (G : GlobOK C ι h.nx) (hρ : ∀ x ∈ o.op.operands, RhoR ι h.nx ρ cρ x) :
    OpOut C.P (Done w0 O ι h K) (Done w0 O ι h KP) ((execOp cρ o).run C.P w) := by
  unfold opK at hk
  unfold execOp
  cases hop : o.op with
  | move x =>
    simp only [hop] at hk
    obtain ⟨v, hk, hv⟩ := hρ x (by simp [hop, Op.operands]) _ hk
    exact Done.here H hk hv
  | assign x =>
    simp only [hop] at hk
    obtain ⟨v, hk, hv⟩ := hρ x (by simp [hop, Op.operands]) _ hk
    exact Done.here H hk hv
  | pick c a b =>
    simp only [hop] at hk
    obtain ⟨vc, hk, hvc⟩ := hρ c (by simp [hop, Op.operands]) _ hk
    cases vc <;> simp only at hk
    rename_i bc
    simp only [VR] at hvc
    cases bc with
    | true =>
      rw [cond_true] at hk
      obtain ⟨v, hk, hv⟩ := hρ a (by simp [hop, Op.operands]) _ hk
      simp only [hvc, asBool, Sem.run_bind, Sem.run_pure, Result.andThen_ok, if_true]
      exact Done.here H hk hv
    | false =>
      rw [cond_false] at hk
      obtain ⟨v, hk, hv⟩ := hρ b (by simp [hop, Op.operands]) _ hk
      simp only [hvc, asBool, Sem.run_bind, Sem.run_pure, Result.andThen_ok, Bool.false_eq_true, if_false]
      exact Done.here H hk hv
  | alloc t =>
    simp only [hop] at hk
    obtain ⟨z, cz, hk, hz, hzv⟩ := zeroK_elim hk
    rw [cellsK_iff] at hk
    obtain ⟨cv, w', hr, hd⟩ := newVar_done hk H (VR_cells (hzv ι h.nx))
    exact out_value (by simp [Instr.alloc, hz, hr]) hd
  | box t x =>
    simp only [hop] at hk
    obtain ⟨v, hk, hv⟩ := hρ x (by simp [hop, Op.operands]) _ hk
    rw [cellsK_iff, infoK_iff] at hk; obtain ⟨inf, hi, hk⟩ := hk
    rw [assertB_iff] at hk; obtain ⟨_, hk⟩ := hk
    obtain ⟨cv, w', hr, hd⟩ := newVar_done hk H (VR_cells hv)
    exact out_value (by simp [Instr.box, hr]) hd
  | build t ps =>
    simp only [hop] at hk
    obtain ⟨vs, hk, hl, hvs⟩ := mapK_parts hk fun p hp => hρ p.2 (by simp [hop, Op.operands]; exact ⟨p.1, by simpa using hp⟩)
    obtain ⟨v, cv, hk, hv, hr⟩ := buildK_elim hk (n := h.nx) (ι := ι) (cps := ps.map fun (i, x) => (i, cρ x)) (by simp [hl]) (by simpa using hvs)
    exact out_value (hr w) (Done.here H hk hv)
  | buildSlice t n ps =>
    simp only [hop] at hk
    obtain ⟨vs, hk, hl, hvs⟩ := mapK_parts hk fun p hp => hρ p.2 (by simp [hop, Op.operands]; exact ⟨p.1, by simpa using hp⟩)
    obtain ⟨cv, w', hr, hd⟩ := buildSliceK_elim hk H (cps := ps.map fun (i, x) => (i, cρ x)) (by simp [hl]) (by simpa using hvs)
    exact out_value hr hd
  | load t a =>
    simp only [hop] at hk
    obtain ⟨p, hk, hp⟩ := hρ a (by simp [hop, Op.operands]) _ hk
    obtain ⟨v, cv, hk, hv, hr⟩ := loadK_elim hk H hp
    exact out_value hr (Done.here H hk hv)
  | store t a x =>
    simp only [hop] at hk
    obtain ⟨p, hk, hp⟩ := hρ a (by simp [hop, Op.operands]) _ hk
    obtain ⟨v, hk, hv⟩ := hρ x (by simp [hop, Op.operands]) _ hk
    obtain ⟨w', h', hr, hk, hnx, H'⟩ := storeK_elim hk H hp hv
    simp only [Sem.run_bind, hr, Result.andThen_ok, Sem.run_pure]
    exact ⟨ι, h', _, hk, Ext.refl _ _, Nat.le_of_eq hnx.symm, H', ⟨#[], rfl, rfl⟩⟩
  | nilCheck x =>
    simp only [hop] at hk
    obtain ⟨v, hk, hv⟩ := hρ x (by simp [hop, Op.operands]) _ hk
    have hv0 := hv
    cases v
    case ptr b i z j =>
      simp only [VR] at hv
      obtain ⟨_, _, hv⟩ := hv
      simp only [hv]
      exact Done.here H hk (by rw [← hv]; exact hv0)
    case func fn a b =>
      simp only [VR] at hv
      obtain ⟨a', c', hv, _⟩ := hv
      cases fn
      case func f => simp only [hv, frn]; exact Done.here H hk (by rw [hv] at hv0; exact hv0)
      case yield l => simp only [hv, frn]; exact Done.here H hk (by rw [hv] at hv0; exact hv0)
      all_goals exact hk.elim
    all_goals exact hk.elim
  | binOp op t x y yt =>
    simp only [hop] at hk
    obtain ⟨vx, hk, hvx⟩ := hρ x (by simp [hop, Op.operands]) _ hk
    obtain ⟨vy, hk, hvy⟩ := hρ y (by simp [hop, Op.operands]) _ hk
    obtain ⟨v, cv, hk, hv, hr⟩ := binA_elim hk hvx hvy x y rfl
    exact out_value (hr w) (Done.here H hk hv)
  | unOp op t x =>
    simp only [hop] at hk
    obtain ⟨vx, hk, hvx⟩ := hρ x (by simp [hop, Op.operands]) _ hk
    unfold unA at hk
    split at hk
    · simp only [VR] at hvx
      exact out_value (cv := .int _ _) (w' := w) (by simp [hvx, Op.unary, Op.intArith]) (Done.here H hk rfl)
    · simp only [VR] at hvx
      exact out_value (cv := .int _ _) (w' := w) (by
        rw [hvx]; simp only [Op.unary, Op.intBits, Sem.run_pure, aBits]) (Done.here H hk rfl)
    · simp only [VR] at hvx
      exact out_value (cv := .bool _) (w' := w) (by simp [hvx, Op.unary]) (Done.here H hk rfl)
    · exact hk.elim
  | convert s d x =>
    simp only [hop] at hk
    obtain ⟨vx, hk, hvx⟩ := hρ x (by simp [hop, Op.operands]) _ hk
    obtain ⟨cv, w', hr, hd⟩ := convertK_elim hk H hvx
    exact out_value hr hd
  | makeInterface t x =>
    simp only [hop] at hk
    obtain ⟨vx, hk, hvx⟩ := hρ x (by simp [hop, Op.operands]) _ hk
    rw [underK_iff] at hk; obtain ⟨d, hd, hk⟩ := hk
    refine out_value (cv := .iface t (cρ x)) (w' := w) ?_ (Done.here H (v := .iface t vx) ?_ ⟨_, rfl, hvx⟩)
    · cases d <;> simp_all [Instr.makeInterface, run_underlying hd]
    · cases d <;> simp_all
  | makeFunc fn a b =>
    simp only [hop] at hk
    have hny : ∀ l, fn ≠ .yield l := fun l e => by subst e; exact hk.elim
    replace hk : mapK ρ a.toList fun a => mapK ρ b.toList fun b => K (.func fn a b) h := by cases fn <;> first | exact hk | exact hk.elim
    obtain ⟨va, hk, hva⟩ := mapK_ops hk fun x hx => hρ x (by simp [hop, Op.operands]; left; simpa using hx)
    obtain ⟨vb, hk, hvb⟩ := mapK_ops hk fun x hx => hρ x (by simp [hop, Op.operands]; right; simpa using hx)
    exact out_value (cv := .func fn (a.map cρ) (b.map cρ)) (w' := w) rfl (Done.here H hk ⟨_, _, by cases fn <;> first | rfl | exact absurd rfl (hny _), by cases fn <;> first | trivial | exact absurd rfl (hny _), by simpa using hva, by simpa using hvb⟩)
  | makeSlice t l c =>
    simp only [hop] at hk
    obtain ⟨vl, hk, hvl⟩ := hρ l (by simp [hop, Op.operands]) _ hk
    obtain ⟨vc, hk, hvc⟩ := hρ c (by simp [hop, Op.operands]) _ hk
    obtain ⟨cv, w', hr, hd⟩ := makeSliceK_elim hk H hvl hvc
    exact out_value hr hd
  | slice t x lo hi mx =>
    cases mx with
    | none =>
      simp only [hop] at hk
      obtain ⟨vx, hk, hvx⟩ := hρ x (by simp [hop, Op.operands]) _ hk
      obtain ⟨vl, hk, hvl⟩ := oK_elim (clo := lo.map cρ) (fun x hx => hρ x (by subst hx; simp [hop, Op.operands])) rfl hk
      obtain ⟨vh, hk, hvh⟩ := oK_elim (clo := hi.map cρ) (fun x hx => hρ x (by subst hx; simp [hop, Op.operands])) rfl hk
      obtain ⟨v, cv, hk, hv, hr⟩ := sliceK_elim hk H hvx hvl hvh
      exact out_value (hr w) (Done.here H hk hv)
    | some mx =>
      cases hi with
      | none => simp only [hop] at hk
      | some hi =>
        simp only [hop] at hk
        obtain ⟨vx, hk, hvx⟩ := hρ x (by simp [hop, Op.operands]) _ hk
        obtain ⟨vl, hk, hvl⟩ := oK_elim (clo := lo.map cρ) (fun x hx => hρ x (by subst hx; simp [hop, Op.operands])) rfl hk
        obtain ⟨vh, hk, hvh⟩ := hρ hi (by simp [hop, Op.operands]) _ hk
        obtain ⟨vm, hk, hvm⟩ := hρ mx (by simp [hop, Op.operands]) _ hk
        obtain ⟨v, cv, hk, hv, hr⟩ := slice3K_elim hk hvx hvl hvh hvm
        exact out_value (hr w) (Done.here H hk hv)
  | fieldAddr t x f =>
    simp only [hop] at hk
    obtain ⟨vx, hk, hvx⟩ := hρ x (by simp [hop, Op.operands]) _ hk
    obtain ⟨v, cv, hk, hv, hr⟩ := fieldAddrK_elim hk hvx
    exact out_value (hr w) (Done.here H hk hv)
  | field t x f =>
    simp only [hop] at hk
    obtain ⟨vx, hk, hvx⟩ := hρ x (by simp [hop, Op.operands]) _ hk
    obtain ⟨v, cv, hk, hv, hr⟩ := fieldK_elim hk hvx
    exact out_value (hr w) (Done.here H hk hv)
  | indexAddr t x i =>
    simp only [hop] at hk
    obtain ⟨vx, hk, hvx⟩ := hρ x (by simp [hop, Op.operands]) _ hk
    obtain ⟨vi, hk, hvi⟩ := hρ i (by simp [hop, Op.operands]) _ hk
    obtain ⟨v, cv, hk, hv, hr⟩ := indexAddrK_elim hk H hvx hvi
    exact out_value (hr w) (Done.here H hk hv)
  | index t x i =>
    simp only [hop] at hk
    obtain ⟨vx, hk, hvx⟩ := hρ x (by simp [hop, Op.operands]) _ hk
    obtain ⟨vi, hk, hvi⟩ := hρ i (by simp [hop, Op.operands]) _ hk
    obtain ⟨v, cv, hk, hv, hr⟩ := indexK_elim hk hvx hvi
    exact out_value (hr w) (Done.here H hk hv)
  | typeAssert x xt at_ ok =>
    simp only [hop] at hk
    obtain ⟨vx, hk, hvx⟩ := hρ x (by simp [hop, Op.operands]) _ hk
    cases vx
    case iface t' v' =>
      simp only [VR] at hvx
      obtain ⟨y, hy, hvy⟩ := hvx
      simp only at hk
      rw [underK_iff] at hk; obtain ⟨d, hd, hk⟩ := hk
      have hni : ∀ ms, d ≠ .interface ms := fun ms e => by subst e; exact hk
      have hk' : @cond Prop (Nat.beq t' at_) (@cond Prop ok (K (.tup [v', .bool true]) h) (K v' h)) (@cond Prop ok (zeroK C at_ fun z => K (.tup [z, .bool false]) h) False) := by
        cases d <;> first | exact hk | exact absurd rfl (hni _)
      have hta : ∀ w, (Instr.typeAssert (cρ x) xt at_ ok).run C.P w = (if t' = at_ then (.ok (if ok then .tuple #[y, .bool true] else y) w : Result Value) else (Instr.typeAssert (cρ x) xt at_ ok).run C.P w) := by
        intro w
        split
        · rename_i e
          subst e
          cases d <;> first | exact absurd rfl (hni _) | simp [Instr.typeAssert, run_underlying hd, hy]
        · rfl
      cases hb : Nat.beq t' at_ with
      | true =>
        rw [hb, cond_true] at hk'
        have e := Nat.eq_of_beq_eq_true hb
        have hta' := hta w
        rw [if_pos e] at hta'
        cases ok with
        | true =>
          rw [cond_true] at hk'
          simp only [if_true] at hta'
          exact out_value hta' (Done.here H hk' ⟨_, rfl, _, _, rfl, hvy, _, _, rfl, rfl, rfl⟩)
        | false =>
          rw [cond_false] at hk'
          simp only [Bool.false_eq_true, if_false] at hta'
          exact out_value hta' (Done.here H hk' hvy)
      | false =>
        rw [hb, cond_false] at hk'
        have e : ¬ t' = at_ := fun e => by subst e; simp [Nat.beq_refl] at hb
        cases ok with
        | false => exact hk'.elim
        | true =>
          rw [cond_true] at hk'
          obtain ⟨z, cz, hk', hz, hzv⟩ := zeroK_elim hk'
          refine out_value (cv := .tuple #[cz, .bool false]) (w' := w) ?_ (Done.here H hk' ⟨_, rfl, _, _, rfl, hzv _ _, _, _, rfl, rfl, rfl⟩)
          cases d <;> first | exact absurd rfl (hni _) | simp [Instr.typeAssert, run_underlying hd, hy, e, hz]
    case nili =>
      simp only [VR] at hvx
      simp only at hk
      rw [underK_iff] at hk; obtain ⟨d, hd, hk⟩ := hk
      cases ok with
      | false => exact hk.elim
      | true =>
        simp only [cond_true] at hk
        obtain ⟨z, cz, hk', hz, hzv⟩ := zeroK_elim hk
        refine out_value (cv := .tuple #[cz, .bool false]) (w' := w) ?_ (Done.here H hk' ⟨_, rfl, _, _, rfl, hzv _ _, _, _, rfl, rfl, rfl⟩)
        cases d <;> simp [Instr.typeAssert, run_underlying hd, hvx, hz]
    all_goals exact hk.elim
  | extract t i =>
    simp only [hop] at hk
    obtain ⟨vt, hk, hvt⟩ := hρ t (by simp [hop, Op.operands]) _ hk
    cases vt <;> simp only at hk
    simp only [VR] at hvt
    obtain ⟨a, hvt, hvs⟩ := hvt
    rw [nthK_iff] at hk; obtain ⟨v, hv, hk⟩ := hk
    obtain ⟨y, hy, hvr⟩ := hvs.get hv
    have hy' : a[i]? = some y := by rw [← Array.getElem?_toList]; exact hy
    exact out_value (cv := y) (w' := w) (by simp [hvt, Instr.extract, hy']) (Done.here H hk hvr)
  | panic x =>
    simp only [hop] at hk
    obtain ⟨vx, hk, hvx⟩ := hρ x (by simp [hop, Op.operands]) _ hk
    cases vx
    case iface t' v' =>
      have hvx0 := hvx
      simp only [VR] at hvx
      obtain ⟨y, hy, hvy⟩ := hvx
      rw [hy] at hvx0
      simp only [hy, Instr.panic, Sem.run_bind, goPanic, Sem.run_halt, Result.andThen_halt]
      exact Done.here H hk hvx0
    all_goals exact hk.elim
  | call c =>
    simp only [hop] at hk
    cases hc : c.callee with
    | builtin b =>
      simp only [hc] at hk
      obtain ⟨vs, hk, hvs⟩ := mapK_ops hk fun x hx => hρ x (by simp [hop, Op.operands, Call.operands, hc]; simpa using hx)
      simp only [resolve, hc, Sem.run_bind, Sem.run_pure, Result.andThen_ok, invoke]
      exact builtinK_out hk H (cvs := c.args.map cρ) (by simpa using hvs)
    | value f =>
      simp only [hc] at hk
      obtain ⟨vf, hk, hvf⟩ := hρ f (by simp [hop, Op.operands, Call.operands, hc]) _ hk
      obtain ⟨vs, hk, hvs⟩ := mapK_ops hk fun x hx => hρ x (by simp [hop, Op.operands, Call.operands, hc]; right; simpa using hx)
      obtain ⟨d, hd, hout⟩ := applyK_out (cvs := c.args.map cρ) hE hk H G hvf (by simpa using hvs)
      simp only [resolve, hc, Sem.run_bind, hd, Result.andThen_ok]
      exact hout
    | invoke r m => simp only [hc] at hk
  | makeMap t r =>
    cases r with
    | some r =>
      simp only [hop] at hk
      obtain ⟨vr, hk, hvr⟩ := hρ r (by simp [hop, Op.operands]) _ hk
      cases vr <;> first | exact hk.elim | skip
      simp only [VR] at hvr
      rw [underK_iff] at hk; obtain ⟨d, hd0, hk⟩ := hk
      cases d <;> first | exact hk.elim | skip
      obtain ⟨cv, w', hr, hd⟩ := makeMapK_elim (C := C) (t := t) hk H
      refine out_value (cv := cv) (w' := w') ?_ hd
      simp only [Instr.makeMap, Option.map_some, hvr] at hr ⊢
      simpa [run_underlying hd0, asInt, asIntOf] using hr
    | none =>
      simp only [hop] at hk
      obtain ⟨cv, w', hr, hd⟩ := makeMapK_elim (C := C) (t := t) hk H
      exact out_value hr hd
  | lookup t m k ok =>
    simp only [hop] at hk
    obtain ⟨vm, hk, hvm⟩ := hρ m (by simp [hop, Op.operands]) _ hk
    obtain ⟨vk, hk, hvk⟩ := hρ k (by simp [hop, Op.operands]) _ hk
    obtain ⟨v, cv, hk, hv, hr⟩ := lookupK_elim hk H hvm hvk
    exact out_value hr (Done.here H hk hv)
  | insert t m k x =>
    simp only [hop] at hk
    obtain ⟨vm, hk, hvm⟩ := hρ m (by simp [hop, Op.operands]) _ hk
    obtain ⟨vk, hk, hvk⟩ := hρ k (by simp [hop, Op.operands]) _ hk
    obtain ⟨vx, hk, hvx⟩ := hρ x (by simp [hop, Op.operands]) _ hk
    obtain ⟨w', h', hr, hk, hnx, H'⟩ := mapPutK_elim hk H hvm hvk hvx
    simp only [Sem.run_bind, hr, Result.andThen_ok, Sem.run_pure]
    exact ⟨ι, h', _, hk, Ext.refl _ _, Nat.le_of_eq hnx.symm, H', ⟨#[], rfl, rfl⟩⟩
  | mapUpdate t m k x =>
    simp only [hop] at hk
    obtain ⟨vm, hk, hvm⟩ := hρ m (by simp [hop, Op.operands]) _ hk
    obtain ⟨vk, hk, hvk⟩ := hρ k (by simp [hop, Op.operands]) _ hk
    obtain ⟨vx, hk, hvx⟩ := hρ x (by simp [hop, Op.operands]) _ hk
    obtain ⟨w', h', hr, hk, hnx, H'⟩ := mapPutK_elim hk H hvm hvk hvx
    simp only [Sem.run_bind, hr, Result.andThen_ok, Sem.run_pure]
    exact ⟨ι, h', _, hk, Ext.refl _ _, Nat.le_of_eq hnx.symm, H', ⟨#[], rfl, rfl⟩⟩
  | _ => simp only [hop] at hk
end
end Go.Am
