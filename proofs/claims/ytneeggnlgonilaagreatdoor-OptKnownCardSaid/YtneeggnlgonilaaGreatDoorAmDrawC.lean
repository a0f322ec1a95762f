/- A region that draws its order: it comes out as the abstract machine has it. -/
import Derived.Test.YtneeggnlgonilaaGreatDoorAmDrawB
namespace Go.Am
variable {C : Ctx} {E : Env} {w0 : World} {O : Nat → Prop}

abbrev KeepH (K : KR) (h : Heap) : KR := fun v h' => K v h' ∧ h' = h

theorem sliceK_keep {t : TypeId} {x : AV} {lo hi : Option AV} {h : Heap} {K : KR} : sliceK C t x lo hi h (fun v h' => K v h' ∧ h' = h) ↔ sliceK C t x lo hi h K := by
  unfold sliceK
  simp only [and_true]

theorem convertK_keep {s d : TypeId} {h : Heap} {K : KR} (hk : (∃ k k', C.P.underlying s = some (.int k) ∧ C.P.underlying d = some (.int k')) ∨ (C.P.underlying s = some .string ∧ C.P.underlying d = some .string)) (x : AV) :
    convertK C s d x h (fun v h' => K v h' ∧ h' = h) ↔ convertK C s d x h K := by
  unfold convertK
  rcases hk with ⟨k, k', e1, e2⟩ | ⟨e1, e2⟩ <;> simp only [underK, e1, e2, optK] <;> cases x <;> simp

theorem builtinK_keep {b : Builtin} {argTypes : Array TypeId} {vs : List AV} {h : Heap} {K : KR} (hb : b = .len ∨ b = .min ∨ b = .max) : builtinK C b argTypes vs h (fun v h' => K v h' ∧ h' = h) ↔ builtinK C b argTypes vs h K := by
  unfold builtinK
  rcases hb with rfl | rfl | rfl <;> split <;> simp_all

/-- What reads alone leaves the heap as it is. -/
theorem opK_keep {o : Oper} {ρ : Rho} {h : Heap} {K KP : KR} (hk : opKind C o ≠ 2) (h1 : opK C E o ρ h K KP) : opK C E o ρ h (fun v h' => K v h' ∧ h' = h) KP := by
  obtain ⟨dst, op, ty, pos, after, guard⟩ := o
  cases op
  case slice t x lo hi mx =>
    cases mx with
    | none => unfold opK at h1 ⊢; dsimp only at h1 ⊢; simpa only [sliceK_keep] using h1
    | some mx =>
      cases hi with
      | none => exact h1.elim
      | some hi => unfold opK at h1 ⊢; dsimp only at h1 ⊢; simpa only [and_true] using h1
  case convert s d x =>
    have hk' : (∃ k k', C.P.underlying s = some (.int k) ∧ C.P.underlying d = some (.int k')) ∨ (C.P.underlying s = some .string ∧ C.P.underlying d = some .string) := by
      dsimp only [opKind] at hk
      split at hk
      · rename_i k k' e1 e2; exact .inl ⟨_, _, e1, e2⟩
      · rename_i e1 e2; exact .inr ⟨e1, e2⟩
      · exact absurd rfl hk
    unfold opK at h1 ⊢; dsimp only at h1 ⊢
    simpa only [convertK_keep hk'] using h1
  case call c =>
    obtain ⟨callee, args, at_⟩ := c
    cases callee
    case builtin b =>
      have hb : b = .len ∨ b = .min ∨ b = .max := by
        cases b <;> first | exact absurd rfl hk | simp
      unfold opK at h1 ⊢; dsimp only at h1 ⊢
      simpa only [builtinK_keep hb] using h1
    all_goals exact absurd rfl hk
  case makeFunc fn a b =>
    unfold opK at h1 ⊢; dsimp only at h1 ⊢
    cases fn <;> first | exact h1.elim | simpa only [and_true] using h1
  all_goals first
    | exact absurd rfl hk
    | (unfold opK at h1 ⊢; dsimp only at h1 ⊢; simpa only [and_true] using h1)

theorem builtinK_quiet {b : Builtin} {argTypes : Array TypeId} {vs : List AV} {h h2 : Heap} {P : AV → Prop} (hb : b = .min ∨ b = .max) : builtinK C b argTypes vs h2 (fun v _ => P v) ↔ builtinK C b argTypes vs h (fun v _ => P v) := by
  unfold builtinK
  rcases hb with rfl | rfl <;> split <;> simp_all

theorem opK_quiet {o : Oper} {ρ : Rho} {h h2 : Heap} {P : AV → Prop} (hk : opKind C o = 0) (h1 : opK C E o ρ h (fun v _ => P v) noKP) : opK C E o ρ h2 (fun v _ => P v) noKP := by
  obtain ⟨dst, op, ty, pos, after, guard⟩ := o
  cases op
  case convert s d x =>
    exfalso
    dsimp only [opKind] at hk
    split at hk <;> simp at hk
  case call c =>
    obtain ⟨callee, args, at_⟩ := c
    cases callee
    case builtin b =>
      have hb : b = .min ∨ b = .max := by
        cases b <;> first | (simp [opKind] at hk; done) | simp
      unfold opK at h1 ⊢; dsimp only at h1 ⊢
      simpa only [builtinK_quiet (h := h) hb] using h1
    all_goals (simp only [opKind] at hk; omega)
  all_goals first
    | (simp only [opKind] at hk; omega)
    | (unfold opK at h1 ⊢; dsimp only at h1 ⊢; exact h1)

end Go.Am
