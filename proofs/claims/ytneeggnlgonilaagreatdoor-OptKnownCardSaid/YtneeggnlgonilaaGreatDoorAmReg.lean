/- A region in the order of its text; one operation within a frame. -/
import Derived.Test.YtneeggnlgonilaaGreatDoorAmShB
import Derived.RangeFuncRecord
import Derived.TacticsIn
namespace Go.Am
variable {C : Ctx} {E : Env} {ι : Inj} {w0 : World} {O : Nat → Prop} {h : Heap} {w : World}

def Fw (r : Option Nat) : Fence := { Fence.wide with round := r }
def markOf (ι : Inj) (b : Nat) : Deferred := { target := .collected (ι b).blk, args := #[] }

structure SR (C : Ctx) (w0 : World) (O : Nat → Prop) (D : List Deferred) (ι : Inj) (st : St) (a : Act) (w : World) : Prop where
  hr : HR w0 O ι st.h w
  tr : TR ι st.h.nx st.tm st.nt a.tmps
  df : a.defers = st.df.map (markOf ι) ++ D
  dfl : ∀ b ∈ st.df, b < st.h.nx
  gl : GlobOK C ι st.h.nx

def ExR (ι : Inj) (n : Nat) : AExit → Exit → Prop
  | .normal, .normal => True
  | .exit i, .exit j => i = j
  | .goto i, .goto j => i = j
  | .ret, .ret => True
  | .panic v, .panic chain => ∃ cv, chain = [{ v := cv, recovered := false }] ∧ VR ι n v cv
  | _, _ => False

/-- What a piece of code must reach, by the abstract machine's word. -/
def QK (C : Ctx) (w0 : World) (O : Nat → Prop) (D : List Deferred) (ι : Inj) (nx : Nat) (K : AExit → St → Prop) : Exit → Act → World → Prop := fun e a' w' =>
  ∃ ι' e' st', K e' st' ∧ Ext ι ι' nx ∧ nx ≤ st'.h.nx ∧ SR C w0 O D ι' st' a' w' ∧ ExR ι' st'.h.nx e' e

theorem QK.ext {D : List Deferred} {ι' : Inj} {nx nx' : Nat} {K : AExit → St → Prop} {e : Exit} {a : Act} (hq : QK C w0 O D ι' nx' K e a w) (he : Ext ι ι' nx) (hn : nx ≤ nx') : QK C w0 O D ι nx K e a w := by
  obtain ⟨ι2, e', st', hk, h1, h2, h3, h4⟩ := hq
  exact ⟨ι2, e', st', hk, he.trans h1 hn, Nat.le_trans hn h2, h3, h4⟩

theorem rho_ok {tm : List (Nat × AV)} {nt n : Nat} {a : Act} (T : TR ι n tm nt a.tmps) (G : GlobOK C ι n) (x : Operand) : RhoR ι n (rhoOf C tm) a.eval x := by
  intro k hk
  cases x with
  | tmp t =>
    simp only [rhoOf, getK_iff] at hk
    obtain ⟨v, hv, hk⟩ := hk
    obtain ⟨cv, h1, h2⟩ := T.2 t v hv
    exact ⟨v, hk, by simpa [Act.eval, Array.getD_eq_getD_getElem?, h1] using h2⟩
  | const c =>
    simp only [rhoOf, optK_iff] at hk
    obtain ⟨v, hv, hk⟩ := hk
    exact ⟨v, hk, ofVal_sound hv ι n⟩
  | global g =>
    simp only [rhoOf, getK_iff] at hk
    obtain ⟨b, hb, hk⟩ := hk
    obtain ⟨h1, h2⟩ := G g b hb
    exact ⟨_, hk, ⟨h1, .inl rfl, by rw [h2]; simp [Act.eval]⟩⟩
  | func f => exact ⟨_, hk, by simp only [VR, Act.eval]; exact ⟨#[], #[], rfl, trivial, rfl, rfl⟩⟩

theorem opK_not_defer {o : Oper} {ρ : Rho} {K KP : KR} (hk : opK C E o ρ h K KP) (c : Call) : o.op ≠ .defer c := by
  intro e
  unfold opK at hk
  simp only [e] at hk

/-- One operation within a frame. -/
theorem op_wpInR (hE : EnvOK C E) {o : Oper} {ρ : Rho} {a : Act} {K KP : KR} (hk : opK C E o ρ h K KP) (H : HR w0 O ι h w) (hρ : ∀ x ∈ o.op.operands, RhoR ι h.nx ρ a.eval x) (G : GlobOK C ι h.nx)
    {r : Option Nat} {next : Act → World → Prop} {Q : Exit → Act → World → Prop} (hn : ∀ cv w', Done w0 O ι h K cv w' → next (a.put o.dst cv) w') (hp : ∀ cv w', Done w0 O ι h KP cv w' → Q (.panic [{ v := cv, recovered := false }]) a w') :
    o.wpIn (Fw r) 0 C.P a w next Q := by
  refine ⟨fun _ _ => trivial, ?_⟩
  rw [Oper.semAt_eq _ _ _ (opK_not_defer hk)]
  have ho := opK_out hE hk H G (cρ := a.eval) hρ
  revert ho
  generalize (execOp a.eval o).run C.P w = res
  intro ho
  cases res with
  | ok x w' =>
    cases x <;> simp only [OpOut] at ho <;> try exact ho.elim
    · exact hn _ _ ho
    · exact hn _ _ ho
    · refine ⟨fun hd => by simp [Fw, Fence.wide] at hd, CallsIn.mono (F := Fw r) (n := 0) ho fun e w'' he => ?_⟩
      cases e with
      | returned v => exact hn _ _ he
      | panicked chain => obtain ⟨v, rfl, hd⟩ := he; exact hp _ _ hd
      | outgrown => exact he.elim
    · refine ⟨fun hd => by simp [Fw, Fence.wide] at hd, RoundIn.mono (F := Fw r) (n := 0) ho fun e w'' he => ?_⟩
      cases e with
      | returned v => exact hn _ _ he
      | panicked chain => obtain ⟨v, rfl, hd⟩ := he; exact hp _ _ hd
      | outgrown => exact he.elim
  | halt x w' =>
    cases x <;> simp only [OpOut] at ho <;> first | exact ho.elim | exact hp _ _ ho

theorem op_wpIn (hE : EnvOK C E) {o : Oper} {tm : List (Nat × AV)} {nt : Nat} {a : Act} {K KP : KR} (hk : opK C E o (rhoOf C tm) h K KP) (H : HR w0 O ι h w) (T : TR ι h.nx tm nt a.tmps) (G : GlobOK C ι h.nx)
    {r : Option Nat} {next : Act → World → Prop} {Q : Exit → Act → World → Prop} (hn : ∀ cv w', Done w0 O ι h K cv w' → next (a.put o.dst cv) w') (hp : ∀ cv w', Done w0 O ι h KP cv w' → Q (.panic [{ v := cv, recovered := false }]) a w') :
    o.wpIn (Fw r) 0 C.P a w next Q := op_wpInR hE hk H (fun x _ => rho_ok T G x) G hn hp

theorem putTm_elim {nt n : Nat} {tm : List (Nat × AV)} {dst : Option Tmp} {v : AV} {k : List (Nat × AV) → Prop} (hk : putTm nt tm dst v k) :
    ∃ tm', k tm' ∧ (∀ d, lookupB tm' d = if dst = some d then some v else lookupB tm d) ∧ (∀ d, dst = some d → d < nt) ∧ ∀ (ι : Inj) n (a : Act) cv, TR ι n tm nt a.tmps → VR ι n v cv → TR ι n tm' nt (a.put dst cv).tmps := by
  cases dst with
  | none => exact ⟨tm, hk, fun d => by simp, fun d h => by simp at h, fun ι n a cv T hv => T⟩
  | some d =>
    simp only [putTm] at hk
    rw [assertB_iff] at hk; obtain ⟨hd, hk⟩ := hk
    have hd : d < nt := by
      exact Nat.le_of_ble_eq_true (show Nat.ble (d + 1) nt = true from hd)
    refine ⟨_, hk, fun d' => by simp [lookupB], fun d' h => by cases h; exact hd, fun ι n a cv T hv => ⟨by simp [Act.put, T.1], fun i v' hi => ?_⟩⟩
    simp only [lookupB] at hi
    simp only [Act.put]
    split at hi
    · rename_i e
      cases hi; subst e
      exact ⟨cv, by simp [T.1, hd], hv⟩
    · rename_i e
      obtain ⟨c, h1, h2⟩ := T.2 i v' hi
      exact ⟨c, by rw [Array.getElem?_setIfInBounds]; simp [e, h1], h2⟩

def LEq (tm tm' : List (Nat × AV)) : Prop := ∀ d, lookupB tm' d = lookupB tm d
theorem LEq.tr {n nt : Nat} {tm tm' : List (Nat × AV)} {t : Array Value} (hl : LEq tm tm') (T : TR ι n tm nt t) : TR ι n tm' nt t := ⟨T.1, fun i v hi => T.2 i v (by rw [← hl i]; exact hi)⟩

/-- The guard's test, by the abstract machine. -/
def WantA (ops : Array Oper) (o : Oper) (tm : List (Nat × AV)) (b : Bool) : Prop :=
  match o.guard with
  | none => b = true
  | some (j, want) => ∃ d v, (ops[j]?).bind (·.dst) = some d ∧ lookupB tm d = some v ∧ (b = true ↔ v = .bool want)

theorem guardK_elim {ops : Array Oper} {o : Oper} {tm : List (Nat × AV)} {run skip : List (Nat × AV) → Prop} (hk : guardK ops o tm run skip) :
    ∃ tm', LEq tm tm' ∧ ((WantA ops o tm true ∧ run tm') ∨ (WantA ops o tm false ∧ skip tm')) := by
  unfold guardK at hk
  unfold WantA
  cases hg : o.guard with
  | none => simp only [hg] at hk ⊢; exact ⟨tm, fun _ => rfl, .inl ⟨trivial, hk⟩⟩
  | some p =>
    obtain ⟨j, want⟩ := p
    simp only [hg, optK_iff, getK_iff] at hk ⊢
    obtain ⟨d, hd, v, hv, hk⟩ := hk
    have hl : ∀ x, some x = lookupB tm d → LEq tm ((d, x) :: tm) := fun x hx d' => by
      simp only [lookupB]; split
      · rename_i e; subst e; exact hx
      · rfl
    cases v
    case bool b =>
      unfold brK at hk
      cases b <;> cases want <;> simp only [cond_true, cond_false] at hk
      · exact ⟨_, hl _ hv.symm, .inl ⟨⟨d, _, hd, hv, by simp⟩, hk⟩⟩
      · exact ⟨_, hl _ hv.symm, .inr ⟨⟨d, _, hd, hv, by simp⟩, hk⟩⟩
      · exact ⟨_, hl _ hv.symm, .inr ⟨⟨d, _, hd, hv, by simp⟩, hk⟩⟩
      · exact ⟨_, hl _ hv.symm, .inl ⟨⟨d, _, hd, hv, by simp⟩, hk⟩⟩
    all_goals exact ⟨tm, fun _ => rfl, .inr ⟨⟨d, _, hd, hv, by simp⟩, hk⟩⟩

theorem wanted_ofR {ops : Array Oper} {o : Oper} {tm : List (Nat × AV)} {b : Bool} {n : Nat} {t : Array Value} (hw : WantA ops o tm b) (T : ∀ d ∈ guardTmp ops o, ∀ v, lookupB tm d = some v → ∃ cv, t[d]? = some cv ∧ VR ι n v cv) : Region.wanted o (yielded ops t) = b := by
  unfold WantA at hw
  unfold Region.wanted
  cases hg : o.guard with
  | none => simp only [hg] at hw ⊢; exact hw.symm
  | some p =>
    obtain ⟨j, want⟩ := p
    simp only [hg] at hw ⊢
    obtain ⟨d, v, hd, hv, hb⟩ := hw
    obtain ⟨cv, h1, h2⟩ := T d (by simp [guardTmp, hg, hd]) v hv
    unfold yielded
    have h1' : (some d).bind (fun x => t[x]?) = some cv := h1
    rw [hd, h1']
    cases v
    case bool x =>
      simp only [VR] at h2; subst h2
      cases b <;> cases x <;> cases want <;> simp_all
    all_goals
      have hbf : b = false := by
        cases b with
        | false => rfl
        | true => exact absurd (hb.1 rfl) (by simp)
      subst hbf
      simp only [VR] at h2
      first
        | (subst h2; rfl)
        | (obtain ⟨_, _, rfl⟩ := h2; rfl)
        | (obtain ⟨_, _, _, _, _, _, rfl⟩ := h2; rfl)
        | (obtain ⟨_, rfl⟩ := h2; rfl)
        | (obtain ⟨_, _, rfl, _⟩ := h2; rfl)
        | (obtain ⟨_, rfl, _⟩ := h2; rfl)

theorem wanted_of {ops : Array Oper} {o : Oper} {tm : List (Nat × AV)} {b : Bool} {n nt : Nat} {t : Array Value} (hw : WantA ops o tm b) (T : TR ι n tm nt t) : Region.wanted o (yielded ops t) = b :=
  wanted_ofR hw fun d _ v hv => T.2 d v hv

theorem put_defers (a : Act) (dst : Option Tmp) (v : Value) : (a.put dst v).defers = a.defers := by cases dst <;> rfl

/-- A region in the order of its text. -/
theorem opsK_sound (hE : EnvOK C E) {nt : Nat} {ops : Array Oper} {r : Option Nat} {Q : Exit → Act → World → Prop} : ∀ {l : List Oper} {i : Nat} {tm : List (Nat × AV)} {h : Heap} {K : RSt → Prop} {KP : AV → RSt → Prop},
    opsK C E nt ops false l i ⟨tm, h, [], [], 0⟩ K KP → ∀ {ι : Inj} {a : Act} {w : World}, HR w0 O ι h w → TR ι h.nx tm nt a.tmps → GlobOK C ι h.nx →
    (∀ ι' tm' h' a' w', K ⟨tm', h', [], [], 0⟩ → Ext ι ι' h.nx → h.nx ≤ h'.nx → HR w0 O ι' h' w' → TR ι' h'.nx tm' nt a'.tmps → a'.defers = a.defers → Q .normal a' w') →
    (∀ ι' tm' h' a' w' v cv, KP v ⟨tm', h', [], [], 0⟩ → Ext ι ι' h.nx → h.nx ≤ h'.nx → HR w0 O ι' h' w' → TR ι' h'.nx tm' nt a'.tmps → VR ι' h'.nx v cv → a'.defers = a.defers → Q (.panic [{ v := cv, recovered := false }]) a' w') →
    wpListIn (Fw r) 0 C.P ops Q l a w
  | [], i, tm, h, K, KP, hk, ι, a, w, H, T, G, hn, hp => hn ι tm h a w hk (Ext.refl _ _) (Nat.le_refl _) H T rfl
  | o :: rest, i, tm, h, K, KP, hk, ι, a, w, H, T, G, hn, hp => by
    simp only [opsK] at hk
    obtain ⟨tm', hl, hk⟩ := guardK_elim hk
    have T' := hl.tr T
    rcases hk with ⟨hw, hk⟩ | ⟨hw, hk⟩
    · have hw' := wanted_of hw T
      simp only [wpListIn, hw', if_true]
      refine op_wpIn hE hk H T' G ?_ ?_
      · rintro cv w' ⟨ι', h', v, hk, he, hnx, H', hv⟩
        obtain ⟨tm2, hk, _, _, ht⟩ := putTm_elim (n := h'.nx) hk
        exact opsK_sound hE hk H' (ht ι' h'.nx a cv (T'.mono he hnx) hv) (G.mono he hnx)
          (fun ι2 tm3 h2 a2 w2 hk he2 hn2 H2 T2 hd => hn ι2 tm3 h2 a2 w2 hk (he.trans he2 hnx) (Nat.le_trans hnx hn2) H2 T2 (hd.trans (put_defers _ _ _)))
          (fun ι2 tm3 h2 a2 w2 v cv hk he2 hn2 H2 T2 hv hd => hp ι2 tm3 h2 a2 w2 v cv hk (he.trans he2 hnx) (Nat.le_trans hnx hn2) H2 T2 hv (hd.trans (put_defers _ _ _)))
      · rintro cv w' ⟨ι', h', v, hk, he, hnx, H', hv⟩
        exact hp ι' tm' h' a w' v cv hk he hnx H' (T'.mono he hnx) hv rfl
    · have hw' := wanted_of hw T
      simp only [wpListIn, hw', Bool.false_eq_true, if_false]
      refine ⟨fun _ _ => trivial, ?_⟩
      obtain ⟨tm2, hk, _, _, ht⟩ := putTm_elim (n := h.nx) hk
      exact opsK_sound hE hk H (ht ι h.nx a undef T' ⟨#[], rfl, rfl⟩) G
          (fun ι2 tm3 h2 a2 w2 hk he2 hn2 H2 T2 hd => hn ι2 tm3 h2 a2 w2 hk he2 hn2 H2 T2 (hd.trans (put_defers _ _ _)))
          (fun ι2 tm3 h2 a2 w2 v cv hk he2 hn2 H2 T2 hv hd => hp ι2 tm3 h2 a2 w2 v cv hk he2 hn2 H2 T2 hv (hd.trans (put_defers _ _ _)))
end Go.Am
