/- Specifications of functions out of a run on a small heap: what only reads, and hands back a value without addresses. -/
import Derived.Test.YtneeggnlgonilaaGreatDoorAmJoin
namespace Go.Am
open Go.RowKit
variable {C : Ctx} {E : Env} {w0 : World} {O : Nat → Prop}

mutual
theorem VR.bd {ι : Inj} {n : Nat} : ∀ (v : AV) (cv : Value), VR ι n v cv → v.bd n
  | .bool _, _, _ | .int .., _, _ | .str _, _, _ | .nilp, _, _ | .nils, _, _ | .mapn, _, _ | .nilf, _, _ | .nili, _, _ | .emp, _, _ => trivial
  | .ptr .., _, h => h.1
  | .slc .., _, h => h.1
  | .mapr _, _, h => h.1
  | .func fn a c, _, h => by
    obtain ⟨a', c', _, h0, h1, h2⟩ := h
    exact ⟨h0, VRs.bd _ _ h1, VRs.bd _ _ h2⟩
  | .iface t x, _, h => by
    obtain ⟨y, _, h1⟩ := h
    exact VR.bd x y h1
  | .agg cs, _, h => by
    obtain ⟨y, _, h1⟩ := h
    exact VRs.bd _ _ h1
  | .tup cs, _, h => by
    obtain ⟨y, _, h1⟩ := h
    exact VRs.bd _ _ h1
theorem VRs.bd {ι : Inj} {n : Nat} : ∀ (v : List AV) (cv : List Value), VRs ι n v cv → bdL n v
  | [], _, _ => trivial
  | x :: xs, _, h => by
    obtain ⟨y, ys, _, h1, h2⟩ := h
    exact ⟨VR.bd _ _ h1, VRs.bd _ _ h2⟩
end

theorem frn_bd0 {ι ι' : Inj} {fn : Fn} (h : flt 0 fn) : frn ι fn = frn ι' fn := by
  cases fn <;> first | rfl | exact absurd h (Nat.not_lt_zero _)
theorem flt_bd0 {n : Nat} {fn : Fn} (h : flt 0 fn) : flt n fn := by
  cases fn <;> first | trivial | exact absurd h (Nat.not_lt_zero _)

mutual
/-- A value without addresses stands in every heap. -/
theorem VR.of_bd0 {ι ι' : Inj} {n n' : Nat} : ∀ (v : AV) (cv : Value), VR ι n v cv → v.bd 0 → VR ι' n' v cv
  | .bool _, _, h, _ | .int .., _, h, _ | .str _, _, h, _ | .nilp, _, h, _ | .nils, _, h, _ | .mapn, _, h, _ | .nilf, _, h, _ | .nili, _, h, _ | .emp, _, h, _ => h
  | .ptr .., _, _, hb => absurd hb (Nat.not_lt_zero _)
  | .slc .., _, _, hb => absurd hb (Nat.not_lt_zero _)
  | .mapr _, _, _, hb => absurd hb (Nat.not_lt_zero _)
  | .func fn a c, _, h, hb => by
    obtain ⟨a', c', h1, h0, h2, h3⟩ := h
    obtain ⟨b0, b1, b2⟩ := hb
    exact ⟨a', c', by rw [h1, frn_bd0 b0], flt_bd0 b0, VRs.of_bd0 _ _ h2 b1, VRs.of_bd0 _ _ h3 b2⟩
  | .iface t x, _, h, hb => by
    obtain ⟨y, h0, h1⟩ := h
    exact ⟨y, h0, VR.of_bd0 _ _ h1 hb⟩
  | .agg cs, _, h, hb => by
    obtain ⟨y, h0, h1⟩ := h
    exact ⟨y, h0, VRs.of_bd0 _ _ h1 hb⟩
  | .tup cs, _, h, hb => by
    obtain ⟨y, h0, h1⟩ := h
    exact ⟨y, h0, VRs.of_bd0 _ _ h1 hb⟩
theorem VRs.of_bd0 {ι ι' : Inj} {n n' : Nat} : ∀ (v : List AV) (cv : List Value), VRs ι n v cv → bdL 0 v → VRs ι' n' v cv
  | [], _, h, _ => h
  | x :: xs, _, h, hb => by
    obtain ⟨y, ys, h0, h1, h2⟩ := h
    exact ⟨y, ys, h0, VR.of_bd0 _ _ h1 hb.1, VRs.of_bd0 _ _ h2 hb.2⟩
end

def NoWr (h2 : Heap) : Prop := ∀ b y, lookupB h2.bl b = some y → y.wr = false

theorem below_of_noWr {ι ι2 : Inj} {φ : Nat → Nat} {h2 h2' : Heap} {w w' : World} (hn : NoWr h2) (H2 : HR w (OwnOf ι φ h2) ι2 h2' w') : Below w.heap.size w w' :=
  ⟨H2.os, H2.tape, H2.output, H2.size, fun k hk => H2.old k hk (by
    rintro ⟨b, y, hb, hw, _⟩
    rw [hn b y hb] at hw; cases hw)⟩

theorem noWr_nil (n : Nat) : NoWr ⟨n, []⟩ := fun b y h => by simp [lookupB] at h

/-- What only reads. -/
theorem readSpec_ok (hG : C.glob = []) (hE : EnvOK C E) {f : FuncId} {s : Spec}
    (hs : ∀ {args : List AV} {h : Heap} {K KP : KR}, s args h K KP → ∃ φ args2 h2 v, args = renL φ args2 ∧ bdL h2.nx args2 ∧ (∀ {w0 O ι w}, HR w0 O ι h w → Morph φ h2 h) ∧ NoWr h2 ∧ v.bd 0 ∧ K v h ∧ E.call f args2 h2 (fun v' _ => v' = v) fun _ _ => False)
    (sharp : ∀ args h, Sh2 fun K => s args h K noKP) : SpecOK C f s := by
  refine ⟨fun {args h K KP} hk {w0 O ι w cargs} H G hv => ?_, sharp⟩
  obtain ⟨φ, args2, h2, v, rfl, hb, M, hn, hv0, hk, hrun⟩ := hs hk
  have M := M H
  obtain ⟨h1, hc⟩ := hE.call hrun (H.frame_in M) (fun g b h => by rw [hG] at h; simp [lookupB] at h) (VRs.back _ _ hv hb)
  refine ⟨h1, hc.mono fun e w' he => ?_⟩
  cases e with
  | returned cv =>
    obtain ⟨ι2, h2', v', rfl, _, _, H2, hr⟩ := he
    exact ⟨ι, h, v', hk, Ext.refl _ _, Nat.le_refl _, H.below (below_of_noWr hn H2), VR.of_bd0 _ _ hr hv0⟩
  | panicked chain => obtain ⟨_, _, _, _, _, hf, _⟩ := he; exact hf.elim
  | outgrown => exact he.elim

/-! ### what a function answers, by tests -/
inductive Tree (α : Type) where
  | leaf (a : α)
  | no
  | br (b : Bool) (x y : Tree α)
  | chk (a : AV) (x : Tree α)      -- a reading that comes out the same
def Tree.run {α : Type} : Tree α → (α → Prop) → Prop
  | .leaf a, k => k a
  | .no, _ => False
  | .br b x y, k => @cond Prop b (x.run k) (y.run k)
  | .chk a x, k => a = a ∧ x.run k
def Tree.val {α : Type} : Tree α → Option α
  | .leaf a => some a
  | .no => none
  | .br b x y => cond b x.val y.val
  | .chk _ x => x.val
theorem Tree.run_iff {α : Type} {k : α → Prop} : ∀ {t : Tree α}, t.run k ↔ ∃ v, t.val = some v ∧ k v
  | .leaf a => by simp [Tree.run, Tree.val]
  | .no => by simp [Tree.run, Tree.val]
  | .br b x y => by
    cases b
    · simp only [Tree.run, Tree.val, cond_false]; exact Tree.run_iff
    · simp only [Tree.run, Tree.val, cond_true]; exact Tree.run_iff
  | .chk a x => by simp only [Tree.run, Tree.val, true_and]; exact Tree.run_iff
theorem sh_tree {α : Type} (t : Tree α) : Sh fun K => t.run K := fun K h => by
  obtain ⟨v, h1, h2⟩ := Tree.run_iff.1 h
  exact ⟨v, h2, fun K' h' => Tree.run_iff.2 ⟨v, h1, h'⟩⟩

/-! ### functions of values alone -/
def pureSpec (F : List AV → Tree AV) : Spec := fun args h K _ => (F args).run fun v => K v h

mutual
theorem ren_bd0 (φ : Nat → Nat) : ∀ (v : AV), v.bd 0 → v.ren φ = v
  | .bool _, _ | .int .., _ | .str _, _ | .nilp, _ | .nils, _ | .mapn, _ | .nilf, _ | .nili, _ | .emp, _ => rfl
  | .ptr .., hb => absurd hb (Nat.not_lt_zero _)
  | .slc .., hb => absurd hb (Nat.not_lt_zero _)
  | .mapr _, hb => absurd hb (Nat.not_lt_zero _)
  | .func fn a c, hb => by
    obtain ⟨b0, b1, b2⟩ := hb
    have : renFn φ fn = fn := by cases fn <;> first | rfl | exact absurd b0 (Nat.not_lt_zero _)
    simp only [AV.ren, this, renL_bd0 φ _ b1, renL_bd0 φ _ b2]
  | .iface t x, hb => by simp only [AV.ren, ren_bd0 φ x hb]
  | .agg cs, hb => by simp only [AV.ren, renL_bd0 φ cs hb]
  | .tup cs, hb => by simp only [AV.ren, renL_bd0 φ cs hb]
theorem renL_bd0 (φ : Nat → Nat) : ∀ (v : List AV), bdL 0 v → renL φ v = v
  | [], _ => rfl
  | x :: xs, hb => by simp only [renL, ren_bd0 φ x hb.1, renL_bd0 φ xs hb.2]
end

theorem morph_nil (φ : Nat → Nat) (h : Heap) : Morph φ ⟨0, []⟩ h :=
  ⟨fun b hb => absurd hb (Nat.not_lt_zero _), fun b _ hb => absurd hb (Nat.not_lt_zero _), fun b y h => by simp [lookupB] at h⟩

theorem pureSpec_sharp (F : List AV → Tree AV) (args : List AV) (h : Heap) : Sh2 fun K => pureSpec F args h K noKP :=
  sh_bindR (sh_tree _) fun v => sh_pure2 v h

theorem pureSpec_ok (hG : C.glob = []) (hE : EnvOK C E) {f : FuncId} {F : List AV → Tree AV}
    (hs : ∀ args v, (F args).val = some v → bdL 0 args ∧ v.bd 0 ∧ ∀ k : AV → Prop, k v → E.call f args ⟨0, []⟩ (fun v' _ => k v') noKP) : SpecOK C f (pureSpec F) := by
  refine readSpec_ok hG hE (fun {args h K KP} hk => ?_) (pureSpec_sharp F)
  unfold pureSpec at hk
  obtain ⟨v, hF, hk⟩ := Tree.run_iff.1 hk
  obtain ⟨h1, h2, h3⟩ := hs args v hF
  exact ⟨id, args, ⟨0, []⟩, v, (renL_bd0 id args h1).symm, h1, fun _ => morph_nil _ _, noWr_nil 0, h2, hk, h3 (fun v' => v' = v) rfl⟩

theorem SpecOK.glob {C' : Ctx} (hP : C'.P = C.P) (hG : C.glob = []) {f : FuncId} {s : Spec} (h : SpecOK C f s) : SpecOK C' f s :=
  ⟨fun {args h2 K KP} hk {w0 O ι w cargs} H G hv => by
    rw [hP]
    exact h.call hk H (fun g b h => by rw [hG] at h; simp [lookupB] at h) hv, h.sharp⟩

/-- All that a tree may answer is without addresses. -/
def Tree.bd0 : Tree AV → Prop
  | .leaf a => a.bd 0
  | .no => True
  | .br _ x y => x.bd0 ∧ y.bd0
  | .chk _ x => x.bd0
theorem Tree.bd0_val : ∀ {t : Tree AV} {v : AV}, t.bd0 → t.val = some v → v.bd 0
  | .leaf a, v, h, hv => by cases hv; exact h
  | .no, v, h, hv => by cases hv
  | .br b x y, v, h, hv => by
    cases b
    · exact Tree.bd0_val h.2 hv
    · exact Tree.bd0_val h.1 hv
  | .chk _ x, v, h, hv => Tree.bd0_val (t := x) h hv

/-- What the machine finds, as it stands, is a specification. -/
theorem pureSpec_raw (hG : C.glob = []) (hE : EnvOK C E) {f : FuncId} {F : List AV → Tree AV}
    (hs : ∀ args, F args = .no ∨ (bdL 0 args ∧ (F args).bd0 ∧ ∀ k : AV → Prop, (E.call f args ⟨0, []⟩ (fun v' _ => k v') noKP) = (F args).run k)) : SpecOK C f (pureSpec F) :=
  pureSpec_ok hG hE fun args v hF => by
    rcases hs args with h | ⟨h1, h2, h3⟩
    · rw [h] at hF; cases hF
    · refine ⟨h1, Tree.bd0_val h2 hF, fun k hk => ?_⟩
      rw [h3 k]
      exact Tree.run_iff.2 ⟨v, hF, hk⟩
end Go.Am
