/- What is done to a part of the heap, done to the whole. -/
import Derived.Test.YtneeggnlgonilaaGreatDoorAmFrame
namespace Go.Am
variable {C : Ctx} {E : Env} {w0 : World} {O : Nat → Prop} {ι : Inj} {h : Heap} {w : World}

/-- The names of the part, carried on: new blocks of the part are new blocks of the whole. -/
def upN (φ : Nat → Nat) (N n2 : Nat) : Nat → Nat := fun b => if b < n2 then φ b else N + (b - n2)
def glue (ι ι2 : Inj) (N n2 : Nat) : Inj := fun c => if c < N then ι c else ι2 (c - N + n2)

theorem glue_ext (ι ι2 : Inj) (N n2 : Nat) : Ext ι (glue ι ι2 N n2) N := fun b hb => by simp [glue, hb]

/-- The whole after what was done to its part. -/
structure Merged (φ : Nat → Nat) (h h2 h2' h' : Heap) : Prop where
  nx : h'.nx = h.nx + (h2'.nx - h2.nx)
  lt : ∀ c y, lookupB h'.bl c = some y → c < h'.nx
  blk : ∀ c y, lookupB h'.bl c = some y → y.live = true →
    (∃ b x, lookupB h2'.bl b = some x ∧ c = upN φ h.nx h2.nx b ∧ y = x.ren (upN φ h.nx h2.nx) ∧ ((h2.nx ≤ b ∧ x.wr = true) ∨ ∃ y2, lookupB h2.bl b = some y2 ∧ y2.wr = true)) ∨
    (lookupB h.bl c = some y ∧ ∀ b y2, lookupB h2.bl b = some y2 → y2.wr = true → φ b ≠ c)

theorem upN_ok {φ : Nat → Nat} {h2 h2' : Heap} {ι2 : Inj} (M : Morph φ h2 h) (he : Ext (fun b => ι (φ b)) ι2 h2.nx) {b : Nat} (hb : b < h2'.nx) :
    upN φ h.nx h2.nx b < h.nx + (h2'.nx - h2.nx) ∧ glue ι ι2 h.nx h2.nx (upN φ h.nx h2.nx b) = ι2 b := by
  unfold upN glue
  by_cases h1 : b < h2.nx
  · have := M.lt b h1
    rw [if_pos h1, if_pos this]
    exact ⟨by omega, (he b h1).symm⟩
  · rw [if_neg h1, if_neg (by omega)]
    exact ⟨by omega, by congr 1; omega⟩

theorem upN_inj {φ : Nat → Nat} {h2 : Heap} (M : Morph φ h2 h) {b b' : Nat} (e : upN φ h.nx h2.nx b = upN φ h.nx h2.nx b') : b = b' := by
  unfold upN at e
  by_cases h1 : b < h2.nx <;> by_cases h2' : b' < h2.nx
  · rw [if_pos h1, if_pos h2'] at e; exact M.inj b b' h1 h2' e
  · rw [if_pos h1, if_neg h2'] at e; have := M.lt b h1; omega
  · rw [if_neg h1, if_pos h2'] at e; have := M.lt b' h2'; omega
  · rw [if_neg h1, if_neg h2'] at e; omega

theorem HR.frame_out {φ : Nat → Nat} {h2 h2' h' : Heap} {ι2 : Inj} {w' : World} (H : HR w0 O ι h w) (M : Morph φ h2 h) (H2 : HR w (OwnOf ι φ h2) ι2 h2' w') (he : Ext (fun b => ι (φ b)) ι2 h2.nx) (hn : h2.nx ≤ h2'.nx)
    (G : Merged φ h h2 h2' h') : HR w0 O (glue ι ι2 h.nx h2.nx) h' w' := by
  have hup : ∀ b, b < h2'.nx → upN φ h.nx h2.nx b < h'.nx ∧ glue ι ι2 h.nx h2.nx (upN φ h.nx h2.nx b) = ι2 b := fun b hb => by
    rw [G.nx]; exact upN_ok M he hb
  -- a block of the whole that the part may not write stands
  have keep : ∀ c y, lookupB h.bl c = some y → y.live = true → (∀ b y2, lookupB h2.bl b = some y2 → y2.wr = true → φ b ≠ c) → ¬ OwnOf ι φ h2 (ι c).blk := by
    rintro c y hc hl hno ⟨b, y2, hb, hw, hk⟩
    obtain ⟨hlt, hm⟩ := M.blk b y2 hb
    obtain ⟨_, x, hx, hwk⟩ := hm (live_of_wr hw)
    exact H.inj _ _ x y hx hc (hno b y2 hb hw) (hwk.wr (by rw [ren_wr]; exact hw)) hl hk.symm
  have stands : ∀ c y, lookupB h.bl c = some y → y.live = true → (∀ b y2, lookupB h2.bl b = some y2 → y2.wr = true → φ b ≠ c) → w'.heap[(ι c).blk]? = w.heap[(ι c).blk]? := by
    intro c y hc hl hno
    obtain ⟨o, ho, _⟩ := H.get hc hl
    exact H2.old _ (heap_lt ho) (keep c y hc hl hno)
  have gl : ∀ c, c < h.nx → glue ι ι2 h.nx h2.nx c = ι c := glue_ext ι ι2 h.nx h2.nx
  -- where a writable block of the part lies
  have wrP : ∀ b x, lookupB h2'.bl b = some x → x.wr = true → w0.heap.size ≤ (ι2 b).blk ∨ O (ι2 b).blk := by
    intro b x hb hw
    rcases (H2.blk b x hb).2.2 hw with h1 | ⟨b2, y2, hb2, hw2, hk⟩
    · left; have := H.size; omega
    · obtain ⟨hlt, hm⟩ := M.blk b2 y2 hb2
      obtain ⟨_, x', hx', hwk⟩ := hm (live_of_wr hw2)
      rw [hk]
      exact (H.blk _ x' hx').2.2 (hwk.wr (by rw [ren_wr]; exact hw2))
  refine ⟨H2.os.trans H.os, H2.tape.trans H.tape, H2.output.trans H.output, Nat.le_trans H.size H2.size, ?_, ?_, ?_⟩
  · intro k hk hO
    rw [H2.old k (Nat.lt_of_lt_of_le hk H.size) ?_, H.old k hk hO]
    rintro ⟨b, y2, hb, hw, rfl⟩
    obtain ⟨hlt, hm⟩ := M.blk b y2 hb
    obtain ⟨_, x, hx, hwk⟩ := hm (live_of_wr hw)
    rcases (H.blk _ x hx).2.2 (hwk.wr (by rw [ren_wr]; exact hw)) with h1 | h1
    · omega
    · exact hO h1
  · intro c y hc
    have hlt := G.lt c y hc
    refine ⟨hlt, fun hl => ?_, fun hw => ?_⟩
    · rcases G.blk c y hc hl with ⟨b, x, hb, rfl, rfl, hk⟩ | ⟨hc', hno⟩
      · have hbn := (H2.blk b x hb).1
        obtain ⟨o, ho, hbr⟩ := H2.get hb (by rw [ren_live] at hl; exact hl)
        rw [(hup b hbn).2]
        exact ⟨o, ho, hbr.fwd hup⟩
      · have hcn := (H.blk c y hc').1
        obtain ⟨o, ho, hbr⟩ := H.get hc' hl
        rw [gl c hcn]
        exact ⟨o, by rw [stands c y hc' hl hno]; exact ho, hbr.mono (glue_ext _ _ _ _) (by rw [G.nx]; omega)⟩
    · rcases G.blk c y hc (live_of_wr hw) with ⟨b, x, hb, rfl, rfl, hk⟩ | ⟨hc', hno⟩
      · have hbn := (H2.blk b x hb).1
        rw [(hup b hbn).2]
        exact wrP b x hb (by rw [ren_wr] at hw; exact hw)
      · rw [gl c (H.blk c y hc').1]
        exact (H.blk c y hc').2.2 hw
  · intro c c' y y' hc hc' hne hw hl
    rcases G.blk c y hc (live_of_wr hw) with ⟨b, x, hb, rfl, rfl, hk⟩ | ⟨hd, hno⟩
    · have hbn := (H2.blk b x hb).1
      rw [(hup b hbn).2]
      have hwx : x.wr = true := by rw [ren_wr] at hw; exact hw
      rcases G.blk c' y' hc' hl with ⟨b', x', hb', rfl, rfl, hk'⟩ | ⟨hd', hno'⟩
      · have hbn' := (H2.blk b' x' hb').1
        rw [(hup b' hbn').2]
        exact H2.inj b b' x x' hb hb' (fun e => hne (by rw [e])) hwx (by rw [ren_live] at hl; exact hl)
      · rw [gl c' (H.blk c' y' hd').1]
        intro e
        rcases (H2.blk b x hb).2.2 hwx with h1 | h1
        · obtain ⟨o, ho, _⟩ := H.get hd' hl
          have := heap_lt ho
          omega
        · rw [e] at h1
          exact keep c' y' hd' hl hno' h1
    · rw [gl c (H.blk c y hd).1]
      rcases G.blk c' y' hc' hl with ⟨b', x', hb', rfl, rfl, hk'⟩ | ⟨hd', hno'⟩
      · have hbn' := (H2.blk b' x' hb').1
        rw [(hup b' hbn').2]
        have hlx : x'.live = true := by rw [ren_live] at hl; exact hl
        intro e
        have own : ∀ b y2, lookupB h2.bl b = some y2 → y2.wr = true → (ι c).blk ≠ (ι (φ b)).blk := fun b y2 hb hwb => by
          obtain ⟨hlt, hm⟩ := M.blk b y2 hb
          obtain ⟨_, xx, hxx, hwk⟩ := hm (live_of_wr hwb)
          exact H.inj _ _ y xx hd hxx (fun e => hno b y2 hb hwb e.symm) hw hwk.live
        rcases hk' with ⟨hge, hwx⟩ | ⟨y2, hy2, hwy⟩
        · rcases (H2.blk b' x' hb').2.2 hwx with h1 | ⟨b2, y2, hb2, hw2, h1⟩
          · obtain ⟨o, ho, _⟩ := H.get hd (live_of_wr hw)
            have := heap_lt ho
            omega
          · exact own b2 y2 hb2 hw2 (e.trans h1)
        · have hlt := (M.blk b' y2 hy2).1
          have : ι2 b' = ι (φ b') := he b' hlt
          rw [this] at e
          exact own b' y2 hy2 hwy e
      · rw [gl c' (H.blk c' y' hd').1]
        exact H.inj c c' y y' hd hd' hne hw hl
end Go.Am
