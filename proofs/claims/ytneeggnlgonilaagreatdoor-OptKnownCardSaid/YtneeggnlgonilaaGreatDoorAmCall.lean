/- Calls: the abstract machine, so many calls deep, holds of the model. -/
import Derived.Test.YtneeggnlgonilaaGreatDoorAmCode
namespace Go.Am
variable {C : Ctx} {E : Env} {w0 : World} {O : Nat → Prop}

/-- A specification that a function keeps. -/
structure SpecOK (C : Ctx) (f : FuncId) (s : Spec) : Prop where
  call : ∀ {args : List AV} {h : Heap} {K KP : KR}, s args h K KP → ∀ {w0 : World} {O : Nat → Prop} {ι : Inj} {w : World} {cargs : Array Value}, HR w0 O ι h w → GlobOK C ι h.nx → VRs ι h.nx args cargs.toList →
    (callFunc f cargs).run C.P w = .ok (.enter f cargs) w ∧ CallsIn Fence.wide 0 C.P f cargs w (CallRes w0 O ι h K KP)
  sharp : ∀ args h, Sh2 fun K => s args h K noKP

/-- An exit by a panic is not let through. -/
def noPan (K : AExit → St → Prop) : AExit → St → Prop := fun e st => match e with
  | .panic _ => False
  | e => K e st

structure LoopsOK (C : Ctx) (L : Env → LoopSem) : Prop where
  ok : ∀ {E : Env}, EnvOK C E → ShE E → LoopOK C (L E)
  sharp : ∀ {E : Env}, ShE E → ∀ rd body st, Sh2 fun K => L E rd body st (noPan K)

/-! ### sharpness of code -/
section
variable {α β γ : Type}
theorem sh_bindR {m : (γ → Prop) → Prop} {f : γ → (α → β → Prop) → Prop} (hm : Sh m) (hf : ∀ b, Sh2 (f b)) : Sh2 (fun K => m fun b => f b K) := fun K h => by
  obtain ⟨b, hb, h1⟩ := hm _ h
  obtain ⟨a, c, ha, h2⟩ := hf b _ hb
  exact ⟨a, c, ha, fun K' hk => h1 _ (h2 _ hk)⟩
theorem sh_bindRR {δ : Type} {m : (γ → δ → Prop) → Prop} {f : γ → δ → (α → β → Prop) → Prop} (hm : Sh2 m) (hf : ∀ b c, Sh2 (f b c)) : Sh2 (fun K => m fun b c => f b c K) := fun K h => by
  obtain ⟨b, b', hb, h1⟩ := hm _ h
  obtain ⟨a, c, ha, h2⟩ := hf b b' _ hb
  exact ⟨a, c, ha, fun K' hk => h1 _ (h2 _ hk)⟩
theorem sh_assertR {b : Bool} {f : (α → β → Prop) → Prop} (hf : Sh2 f) : Sh2 (fun K => assertB b (f K)) := by
  cases b
  · exact sh_false2
  · exact hf
theorem sh_condR {b : Bool} {f g : (α → β → Prop) → Prop} (hf : Sh2 f) (hg : Sh2 g) : Sh2 (fun K => @cond Prop b (f K) (g K)) := by
  cases b
  · exact hg
  · exact hf
end

theorem sh_putTm (nt : Nat) (tm : List (Nat × AV)) (dst : Option Tmp) (v : AV) : Sh fun K => putTm nt tm dst v K := by
  cases dst with
  | none => exact sh_pure tm
  | some d => exact sh_assert (sh_pure _)

theorem sh_run (hE : ShE E) {r : Rd} {h : Heap} {α : Type} {f : (α → Prop) → Prop} (hf : Sh f) : Sh fun K => r.run C E h (f K) := by
  obtain ⟨j, o, tm, v, ph⟩ := r
  have hsh := sh_opK (C := C) (h := h) hE o (ρ := rhoOf C tm) (fun x => sh_rho tm x)
  refine sh_bind2 (f := fun v' _ K => eqTest C v' v (f K)) hsh fun v' _ => ?_
  unfold eqTest
  cases C.closed with
  | true => exact sh_cond hf sh_false
  | false =>
    intro K hk
    obtain ⟨a, ha, h1⟩ := hf _ hk.2
    exact ⟨a, ha, fun K' hk' => ⟨hk.1, h1 _ hk'⟩⟩

theorem sh_stabPh (hE : ShE E) {r : Rd} {lo hi : Nat} {α : Type} {f : (α → Prop) → Prop} (hf : Sh f) : ∀ (hs : List Heap) (s : Nat), Sh fun K => stabPh C E r lo hi s hs (f K)
  | [], s => hf
  | h :: hs, s => by
    simp only [stabPh]
    exact sh_cond (sh_run hE (sh_stabPh hE hf hs (s + 1))) (sh_stabPh hE hf hs (s + 1))

theorem sh_stabK (hE : ShE E) {bf : Array Nat} {loud : List Nat} {hs : List Heap} {α : Type} {f : (α → Prop) → Prop} (hf : Sh f) : ∀ rds : List Rd, Sh fun K => stabK C E bf loud hs rds (f K)
  | [] => hf
  | r :: rds => sh_stabPh hE (sh_stabK hE hf rds) hs 0

/-- The guard: whichever way it goes. -/
theorem sh_guardK {ops : Array Oper} {o : Oper} {tm : List (Nat × AV)} {α : Type} {run skip : List (Nat × AV) → (α → Prop) → Prop} (hr : ∀ tm, Sh (run tm)) (hs : ∀ tm, Sh (skip tm)) :
    Sh fun K => guardK ops o tm (fun tm => run tm K) (fun tm => skip tm K) := by
  unfold guardK
  cases o.guard with
  | none => exact hr tm
  | some p =>
    obtain ⟨j, want⟩ := p
    refine sh_bind (sh_optK _) fun d => sh_bind (sh_getK _ _) fun v => ?_
    cases v
    case bool b =>
      unfold brK
      cases want <;> exact sh_cond (by first | exact hr _ | exact hs _) (by first | exact hr _ | exact hs _)
    all_goals exact hs tm

theorem sh_opsK (hE : ShE E) {nt : Nat} {ops : Array Oper} {draw : Bool} : ∀ (l : List Oper) (i : Nat) (s : RSt), Sh fun K => opsK C E nt ops draw l i s K (fun _ _ => False)
  | [], i, s => sh_pure s
  | o :: rest, i, ⟨tm0, h, rds, hs, ph⟩ => by
    simp only [opsK]
    have ih := sh_opsK hE (nt := nt) (ops := ops) (draw := draw) rest (i + 1)
    refine sh_guardK (fun tm => ?_) (fun tm => ?_)
    · have hop := sh_opK (C := C) (h := h) hE o (ρ := rhoOf C tm) (fun x => sh_rho tm x)
      cases draw with
      | false =>
        dsimp only
        exact sh_bind2 hop fun v h' => sh_bind (sh_putTm _ _ _ _) fun tm' => ih _
      | true =>
        dsimp only
        refine sh_bind2 hop fun v h' => sh_bind (sh_putTm _ _ _ _) fun tm' => ?_
        have h3 : opKind C o = 0 ∨ opKind C o = 1 ∨ opKind C o = 2 := by have := opKind_le (C := C) o; omega
        rcases h3 with h2 | h2 | h2 <;> simp only [h2] <;> exact ih _
    · refine sh_bind (sh_putTm _ _ _ _) fun tm' => ?_
      cases draw with
      | false => exact ih _
      | true =>
        have h3 : opKind C o = 0 ∨ opKind C o = 1 ∨ opKind C o = 2 := by have := opKind_le (C := C) o; omega
        rcases h3 with h2 | h2 | h2 <;> simp only [h2] <;> exact ih _

theorem sh_regionK (hE : ShE E) (ops : Array Oper) (draw : Bool) (st : St) : Sh2 fun K => regionK C E ops draw st (noPan K) := by
  obtain ⟨tm, nt, df, h⟩ := st
  refine sh_of2 ?_
  cases draw with
  | false =>
    show Sh fun K : AExit × St → Prop => opsK C E nt ops false ops.toList 0 ⟨tm, h, [], [], 0⟩ (fun s => K (.normal, ⟨s.tm, nt, df, s.h⟩)) (fun _ _ => False)
    exact sh_bind (sh_opsK hE _ _ _) fun s => sh_pure ((.normal, ⟨s.tm, nt, df, s.h⟩) : AExit × St)
  | true =>
    show Sh fun K : AExit × St → Prop => assertB (drawOk C ops) (opsK C E nt ops true ops.toList 0 ⟨tm, h, [], [h], 0⟩
      (fun s => assertB (!lateB C ops || hsOk h s.hs) (stabK C E (Region.before ops) (loudOf C ops) s.hs.reverse s.rds (K (.normal, ⟨s.tm, nt, df, s.h⟩)))) (fun _ _ => False))
    exact sh_assert (sh_bind (sh_opsK hE _ _ _) fun s => sh_assert (sh_stabK hE (f := fun K : AExit × St → Prop => K (.normal, ⟨s.tm, nt, df, s.h⟩)) (sh_pure _) _))

theorem noPan_eq {m : (AExit → St → Prop) → Prop} {X Y : AExit → St → Prop} (h : ∀ e st, X e st = noPan Y e st) : m X = m (noPan Y) := by
  congr 1; funext e st; exact h e st

theorem sh_codeK (hE : ShE E) {Lp : LoopSem} (hL : ∀ rd body st, Sh2 fun K => Lp rd body st (noPan K)) : ∀ (c : Code) (rd : Option Nat) (st : St), Sh2 fun K => codeK C E Lp rd c st (noPan K)
  | .skip, rd, st => by simp only [codeK]; exact sh_pure2 _ _
  | .label _, rd, st => by simp only [codeK]; exact sh_pure2 _ _
  | .exit id, rd, st => by simp only [codeK]; exact sh_pure2 _ _
  | .ret, rd, st => by simp only [codeK]; exact sh_pure2 _ _
  | .goto _, rd, st => by cases st; exact sh_false2
  | .refuse _, rd, st => by cases st; exact sh_false2
  | .loop b, rd, st => by simp only [codeK]; exact hL _ _ _
  | .region _ ops draw, rd, st => by simp only [codeK]; exact sh_regionK hE _ _ _
  | .seq a b, rd, st => by
    have iha := sh_codeK hE hL a rd st
    have ihb := sh_codeK hE hL b rd
    simp only [codeK]
    intro K hk
    rw [noPan_eq (m := codeK C E Lp rd a st) (Y := fun e st' => match e with | .normal => codeK C E Lp rd b st' (noPan K) | .panic _ => False | e => K e st') (fun e st => by cases e <;> rfl)] at hk
    obtain ⟨e, st1, h1, h2⟩ := iha _ hk
    have back : ∀ K' : AExit → St → Prop, (match e with | .normal => codeK C E Lp rd b st1 (noPan K') | e => noPan K' e st1) → codeK C E Lp rd a st (thenA (fun st' => codeK C E Lp rd b st' (noPan K')) (noPan K')) := by
      intro K' hk'
      rw [noPan_eq (m := codeK C E Lp rd a st) (Y := fun e st' => match e with | .normal => codeK C E Lp rd b st' (noPan K') | .panic _ => False | e => K' e st') (fun e st => by cases e <;> rfl)]
      refine h2 _ ?_
      cases e <;> first | exact hk' | exact hk'.elim
    cases e with
    | normal =>
      obtain ⟨e2, st2, h3, h4⟩ := ihb st1 _ h1
      exact ⟨e2, st2, h3, fun K' hk' => back K' (h4 _ hk')⟩
    | panic v => exact h1.elim
    | exit i => exact ⟨_, _, h1, fun K' hk' => back K' hk'⟩
    | goto i => exact ⟨_, _, h1, fun K' hk' => back K' hk'⟩
    | ret => exact ⟨_, _, h1, fun K' hk' => back K' hk'⟩
  | .cond c a b, rd, ⟨tm, nt, df, h⟩ => by
    have iha := sh_codeK hE hL a rd ⟨tm, nt, df, h⟩
    have ihb := sh_codeK hE hL b rd ⟨tm, nt, df, h⟩
    simp only [codeK]
    refine sh_bindR (sh_rho tm c) fun v => ?_
    cases v <;> first | exact sh_false2 | exact sh_condR iha ihb
  | .block id b, rd, st => by
    have ih := sh_codeK hE hL b rd st
    simp only [codeK]
    intro K hk
    rw [noPan_eq (m := codeK C E Lp rd b st) (Y := inBlockA id K) (fun e st => by
      cases e <;> first | rfl | (simp only [inBlockA, noPan]))] at hk
    obtain ⟨e, st1, h1, h2⟩ := ih _ hk
    have back : ∀ K' : AExit → St → Prop, inBlockA id K' e st1 → codeK C E Lp rd b st (inBlockA id (noPan K')) := by
      intro K' hk'
      rw [noPan_eq (m := codeK C E Lp rd b st) (Y := inBlockA id K') (fun e st => by
        cases e <;> first | rfl | (simp only [inBlockA, noPan]))]
      exact h2 _ hk'
    cases e with
    | exit i =>
      simp only [inBlockA] at h1
      cases hb : Nat.beq i id with
      | true => rw [hb, cond_true] at h1; exact ⟨_, _, h1, fun K' hk' => back K' (by simp only [inBlockA, hb, cond_true]; exact hk')⟩
      | false => rw [hb, cond_false] at h1; exact ⟨_, _, h1, fun K' hk' => back K' (by simp only [inBlockA, hb, cond_false]; exact hk')⟩
    | normal => exact ⟨_, _, h1, fun K' hk' => back K' hk'⟩
    | goto i => exact ⟨_, _, h1, fun K' hk' => back K' hk'⟩
    | ret => exact ⟨_, _, h1, fun K' hk' => back K' hk'⟩
    | panic v => exact ⟨_, _, h1, fun K' hk' => back K' hk'⟩
  | .scope b, rd, st => by
    have ih := sh_codeK hE hL b rd st
    simp only [codeK]
    intro K hk
    rw [noPan_eq (m := codeK C E Lp rd b st) (Y := noGoA K) (fun e st => by
      cases e <;> rfl)] at hk
    obtain ⟨e, st1, h1, h2⟩ := ih _ hk
    have back : ∀ K' : AExit → St → Prop, noGoA K' e st1 → codeK C E Lp rd b st (noGoA (noPan K')) := by
      intro K' hk'
      rw [noPan_eq (m := codeK C E Lp rd b st) (Y := noGoA K') (fun e st => by
        cases e <;> rfl)]
      exact h2 _ hk'
    cases e with
    | goto i => exact h1.elim
    | exit i => exact ⟨_, _, h1, fun K' hk' => back K' hk'⟩
    | normal => exact ⟨_, _, h1, fun K' hk' => back K' hk'⟩
    | ret => exact ⟨_, _, h1, fun K' hk' => back K' hk'⟩
    | panic v => exact ⟨_, _, h1, fun K' hk' => back K' hk'⟩
  | .rangeFunc f ps assign body, rd, ⟨tm, nt, df, h⟩ => by
    simp only [codeK]
    refine sh_bindR (sh_rho tm f) fun fv => ?_
    have tail : ∀ (r : Nat) (mark : List Nat) (h1 : Heap), Sh2 fun K : AExit → St → Prop => h1.pushK (.loop .ready none tm nt ps.toList assign body r) fun l h2 =>
      (match fv with
        | .func (.func f) first cap => fun K1 KP1 => appK first [.func (.yield l) [] []] fun a => appK a cap fun args => E.call f args h2 K1 KP1
        | _ => fun (_ : KR) (_ : KR) => False)
        (fun _ h3 => h3.getK l fun
          | .loop s pend tm' nt' ps' a' b' r' => assertB (match s with | .busy => false | _ => true) (h3.setK l (.loop .exhausted pend tm' nt' ps' a' b' r') fun h4 =>
              match pend with
              | none => (noPan K) .normal ⟨tm, nt, mark ++ df, h4⟩
              | some .ret => (noPan K) .ret ⟨tm, nt, mark ++ df, h4⟩
              | some (.exit id) => (noPan K) (.exit id) ⟨tm, nt, mark ++ df, h4⟩
              | some _ => False)
          | _ => False)
        (fun _ _ => False) := by
      intro r mark h1
      refine sh_bindRR (sh_hpushK _ _) fun l h2 => ?_
      cases fv with
      | func fn first cap =>
        cases fn with
        | func g =>
          refine sh_bindR (sh_appK _ _) fun a => sh_bindR (sh_appK _ _) fun args => sh_bindRR (hE.call _ _ _) fun _ h3 => sh_bindR (sh_hgetK _ _) fun blk => ?_
          cases blk with
          | loop s pend tm' nt' ps' a' b' r' =>
            refine sh_assertR (sh_bindR (sh_hsetK _ _ _) fun h4 => ?_)
            cases pend with
            | none => exact sh_pure2 _ _
            | some c => cases c <;> first | exact sh_false2 | exact sh_pure2 _ _
          | _ => exact sh_false2
        | _ => exact sh_false2
      | _ => exact sh_false2
    cases rd with
    | none => exact sh_bindRR (sh_hpushK _ _) fun r h1 => tail r [r] h1
    | some l =>
      refine sh_bindR (sh_hgetK _ _) fun blk => ?_
      cases blk <;> first | exact sh_false2 | exact tail _ [] h

end Go.Am
