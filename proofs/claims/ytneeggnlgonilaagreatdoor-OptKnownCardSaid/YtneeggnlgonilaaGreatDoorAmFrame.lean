/- A part of the heap under other names; and what is done to it, done to the whole. -/
import Derived.Test.YtneeggnlgonilaaGreatDoorAmRen
namespace Go.Am
variable {C : Ctx} {E : Env} {w0 : World} {O : Nat → Prop} {ι : Inj} {h : Heap} {w : World}

theorem renTm_lookup {φ : Nat → Nat} : ∀ {tm : List (Nat × AV)} {i : Nat}, lookupB (renTm φ tm) i = (lookupB tm i).map (AV.ren φ)
  | [], i => rfl
  | (j, v) :: r, i => by
    simp only [renTm, lookupB]
    split
    · rfl
    · exact renTm_lookup

theorem bdTm_lookup {n : Nat} {tm : List (Nat × AV)} {i : Nat} {v : AV} (h : bdTm n tm) (hl : lookupB tm i = some v) : v.bd n := h i v hl

theorem TR.back {φ : Nat → Nat} {n n2 nt : Nat} {tm : List (Nat × AV)} {t : Array Value} (h : TR ι n (renTm φ tm) nt t) (hb : bdTm n2 tm) : TR (fun b => ι (φ b)) n2 tm nt t :=
  ⟨h.1, fun i v hv => by
    obtain ⟨cv, h1, h2⟩ := h.2 i (v.ren φ) (by rw [renTm_lookup, hv]; rfl)
    exact ⟨cv, h1, h2.back _ _ (bdTm_lookup hb hv)⟩⟩

theorem TR.fwd {ι' : Inj} {φ : Nat → Nat} {n n' nt : Nat} {tm : List (Nat × AV)} {t : Array Value} (h : TR ι n tm nt t) (hφ : ∀ b, b < n → φ b < n' ∧ ι' (φ b) = ι b) : TR ι' n' (renTm φ tm) nt t :=
  ⟨h.1, fun i v hv => by
    rw [renTm_lookup] at hv
    cases hl : lookupB tm i with
    | none => simp [hl] at hv
    | some x =>
      simp [hl] at hv
      subst hv
      obtain ⟨cv, h1, h2⟩ := h.2 i x hl
      exact ⟨cv, h1, h2.fwd hφ _ _⟩⟩

theorem ER.back {φ : Nat → Nat} {n n2 : Nat} : ∀ {es : List (AV × AV)} {l : List MapEntry}, ER ι n (renEs φ es) l → bdEs n2 es → ER (fun b => ι (φ b)) n2 es l
  | [], _, h, _ => h
  | (k, v) :: r, _, h, hb => by
    simp only [renEs, ER, bdEs] at h hb ⊢
    obtain ⟨e, es, h1, h2, h3, h4⟩ := h
    exact ⟨e, es, h1, h2.back _ _ hb.1, h3.back _ _ hb.2.1, ER.back h4 hb.2.2⟩

theorem ER.fwd {ι' : Inj} {φ : Nat → Nat} {n n' : Nat} (hφ : ∀ b, b < n → φ b < n' ∧ ι' (φ b) = ι b) : ∀ {es : List (AV × AV)} {l : List MapEntry}, ER ι n es l → ER ι' n' (renEs φ es) l
  | [], _, h => h
  | (k, v) :: r, _, h => by
    simp only [renEs, ER] at h ⊢
    obtain ⟨e, es, h1, h2, h3, h4⟩ := h
    exact ⟨e, es, h1, h2.fwd hφ _ _, h3.fwd hφ _ _, ER.fwd hφ h4⟩

theorem renL_get {φ : Nat → Nat} : ∀ {l : List AV} {k : Nat}, (renL φ l)[k]? = (l[k]?).map (AV.ren φ)
  | [], k => by simp [renL]
  | x :: xs, 0 => by simp [renL]
  | x :: xs, k + 1 => by simp [renL, renL_get]
theorem renL_length {φ : Nat → Nat} : ∀ {l : List AV}, (renL φ l).length = l.length
  | [] => rfl
  | x :: xs => by simp [renL, renL_length]
theorem bdL_get {n : Nat} : ∀ {l : List AV} {k : Nat} {v : AV}, bdL n l → l[k]? = some v → v.bd n
  | [], k, v, h, hl => by simp at hl
  | x :: xs, 0, v, h, hl => by simp at hl; subst hl; exact h.1
  | x :: xs, k + 1, v, h, hl => bdL_get h.2 (by simpa using hl)

theorem BR.back {φ : Nat → Nat} {n n2 : Nat} {x : Blk} {bi : BI} {o : Obj} (h : BR ι n (x.ren φ) bi o) (hb : x.bd n2) : BR (fun b => ι (φ b)) n2 x bi o := by
  cases x with
  | cells wr z cap cs =>
    obtain ⟨arr, e, fz, h1, h2, h3, h4, h5⟩ := h
    refine ⟨arr, e, fz, h1, fun k a ha => ?_, h3, h4, fun hw => ?_⟩
    · obtain ⟨y, hy, hv⟩ := h2 k (a.ren φ) (by rw [renL_get, ha]; rfl)
      exact ⟨y, hy, hv.back _ _ (bdL_get hb ha)⟩
    · have := h5 hw
      rw [renL_length] at this
      exact this
  | row wr cap m cols => exact h
  | loop st pend tm nt ps assign body d =>
    obtain ⟨L, h1, h2, h3, h4, h5, h6, h7, h8, h9⟩ := h
    exact ⟨L, h1, h2, h3, h4.back hb.1, h5, h6, h7, h8, hb.2⟩
  | defd s => exact h
  | mp es =>
    obtain ⟨ents, clock, h1, h2⟩ := h
    exact ⟨ents, clock, h1, h2.back hb⟩
  | mpf kd vd g => exact h
  | dead => trivial

theorem BR.fwd {ι' : Inj} {φ : Nat → Nat} {n n' : Nat} (hφ : ∀ b, b < n → φ b < n' ∧ ι' (φ b) = ι b) {x : Blk} {bi : BI} {o : Obj} (h : BR ι n x bi o) : BR ι' n' (x.ren φ) bi o := by
  cases x with
  | cells wr z cap cs =>
    obtain ⟨arr, e, fz, h1, h2, h3, h4, h5⟩ := h
    refine ⟨arr, e, fz, h1, fun k a ha => ?_, h3, h4, fun hw => by rw [renL_length]; exact h5 hw⟩
    rw [renL_get] at ha
    cases hl : cs[k]? with
    | none => simp [hl] at ha
    | some v =>
      simp [hl] at ha
      subst ha
      obtain ⟨y, hy, hv⟩ := h2 k v hl
      exact ⟨y, hy, hv.fwd hφ _ _⟩
  | row wr cap m cols => exact h
  | loop st pend tm nt ps assign body d =>
    obtain ⟨L, h1, h2, h3, h4, h5, h6, h7, h8, h9⟩ := h
    exact ⟨L, h1, h2, h3, h4.fwd hφ, h5, h6, h7, by rw [(hφ d h9).2]; exact h8, (hφ d h9).1⟩
  | defd s => exact h
  | mp es =>
    obtain ⟨ents, clock, h1, h2⟩ := h
    exact ⟨ents, clock, h1, h2.fwd hφ⟩
  | mpf kd vd g => exact h
  | dead => trivial

/-- What is said of x is so of y. -/
structure WkB (x y : Blk) : Prop where
  br : ∀ {ι : Inj} {n : Nat} {bi : BI} {o : Obj}, BR ι n x bi o → BR ι n y bi o
  wr : y.wr = true → x.wr = true
  live : x.live = true

theorem WkB.refl {x : Blk} (h : x.live = true) : WkB x x := ⟨fun h => h, fun h => h, h⟩
theorem WkB.row {wr : Bool} {cap : Option Nat} {n : Nat} {cols : List Col} : WkB (.row wr cap n cols) (.row false none n cols) :=
  ⟨fun h => by
    obtain ⟨arr, e, fz, h1, h2, h3, h4, h5, h6⟩ := h
    exact ⟨arr, e, fz, h1, h2, fun c hc => by simp at hc, h4, h5, fun h => by simp at h⟩, fun h => by simp [Blk.wr] at h, rfl⟩
theorem WkB.cells {wr : Bool} {z : Nat} {cap : Option Nat} {cs : List AV} : WkB (.cells wr z cap cs) (.cells false z none cs) :=
  ⟨fun h => by
    obtain ⟨arr, e, fz, h1, h2, h3, h4, h5⟩ := h
    exact ⟨arr, e, fz, h1, h2, fun c hc => by simp at hc, h4, fun h => by simp at h⟩, fun h => by simp [Blk.wr] at h, rfl⟩

theorem WkB.mpf {kd vd : IntKind} : WkB (.mp []) (.mpf kd vd fun _ => none) :=
  ⟨fun h => by
    obtain ⟨ents, clock, h1, h2⟩ := h
    simp only [ER] at h2
    exact ⟨ents, clock, h1, by rw [h2]; exact ⟨fun e he => by simp at he, fun a => rfl⟩⟩, fun _ => rfl, rfl⟩

/-- The part h2 of h, under other names: b there is φ b here. -/
structure Morph (φ : Nat → Nat) (h2 h : Heap) : Prop where
  lt : ∀ b, b < h2.nx → φ b < h.nx
  inj : ∀ b b', b < h2.nx → b' < h2.nx → φ b = φ b' → b = b'
  blk : ∀ b y, lookupB h2.bl b = some y → b < h2.nx ∧ (y.live = true → y.bd h2.nx ∧ ∃ x, lookupB h.bl (φ b) = some x ∧ WkB x (y.ren φ))

theorem ren_wr (φ : Nat → Nat) (y : Blk) : (y.ren φ).wr = y.wr := by cases y <;> rfl
theorem ren_live (φ : Nat → Nat) (y : Blk) : (y.ren φ).live = y.live := by cases y <;> rfl

theorem live_of_wr {x : Blk} (h : x.wr = true) : x.live = true := by cases x <;> simp_all [Blk.wr, Blk.live]

theorem HR.morph {φ : Nat → Nat} {h2 : Heap} (H : HR w0 O ι h w) (M : Morph φ h2 h) : HR w0 O (fun b => ι (φ b)) h2 w := by
  refine ⟨H.os, H.tape, H.output, H.size, H.old, ?_, ?_⟩
  · intro b y hb
    obtain ⟨hlt, hm⟩ := M.blk b y hb
    refine ⟨hlt, fun hl => ?_, fun hw => ?_⟩
    · obtain ⟨hbd, x, hx, hwk⟩ := hm hl
      obtain ⟨o, ho, hbr⟩ := H.get hx hwk.live
      exact ⟨o, ho, (hwk.br hbr).back hbd⟩
    · obtain ⟨hbd, x, hx, hwk⟩ := hm (live_of_wr hw)
      exact (H.blk _ x hx).2.2 (hwk.wr (by rw [ren_wr]; exact hw))
  · intro b b' y y' hb hb' hne hw hl
    obtain ⟨hlt, hm⟩ := M.blk b y hb
    obtain ⟨hlt', hm'⟩ := M.blk b' y' hb'
    obtain ⟨_, x, hx, hwk⟩ := hm (live_of_wr hw)
    obtain ⟨_, x', hx', hwk'⟩ := hm' hl
    exact H.inj _ _ x x' hx hx' (fun e => hne (M.inj b b' hlt hlt' e)) (hwk.wr (by rw [ren_wr]; exact hw)) hwk'.live

/-- The blocks of the part that may be written. -/
def OwnOf (ι : Inj) (φ : Nat → Nat) (h2 : Heap) (k : Nat) : Prop := ∃ b y, lookupB h2.bl b = some y ∧ y.wr = true ∧ k = (ι (φ b)).blk

theorem HR.frame_in {φ : Nat → Nat} {h2 : Heap} (H : HR w0 O ι h w) (M : Morph φ h2 h) : HR w (OwnOf ι φ h2) (fun b => ι (φ b)) h2 w := by
  have H' := H.morph M
  exact ⟨rfl, rfl, rfl, Nat.le_refl _, fun _ _ _ => rfl, fun b y hb => ⟨(H'.blk b y hb).1, (H'.blk b y hb).2.1, fun hw => .inr ⟨b, y, hb, hw, rfl⟩⟩, H'.inj⟩
end Go.Am
