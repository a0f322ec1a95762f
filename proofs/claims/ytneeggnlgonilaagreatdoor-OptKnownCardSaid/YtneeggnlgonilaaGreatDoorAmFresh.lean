/- Operations that lay a new block of nothing; what stands under a run. -/
import Derived.Test.YtneeggnlgonilaaGreatDoorAmReg
namespace Go.Am
variable {C : Ctx} {E : Env} {ι : Inj} {w0 : World} {O : Nat → Prop} {h : Heap} {w : World}

/-- A block that stands already is taken in. -/
theorem HR.adoptNew (H : HR w0 O ι h w) (x : Blk) (o : Obj) {B cap len : Nat} (hB : w.heap[B]? = some o) (hge : w0.heap.size ≤ B) (hx : BR (newI ι h.nx ⟨B, cap, len⟩) (h.nx + 1) x ⟨B, cap, len⟩ o)
    (hne : ∀ b y, lookupB h.bl b = some y → y.live = true → (ι b).blk ≠ B) : HR w0 O (newI ι h.nx ⟨B, cap, len⟩) ⟨h.nx + 1, (h.nx, x) :: h.bl⟩ w := by
  have hext := newI_ext ι h.nx ⟨B, cap, len⟩
  have hold : ∀ b y, lookupB h.bl b = some y → newI ι h.nx ⟨B, cap, len⟩ b = ι b := fun b y hb => hext b (H.blk b y hb).1
  refine ⟨H.os, H.tape, H.output, H.size, H.old, ?_, ?_⟩
  · intro b y hb
    simp only [lookupB] at hb
    split at hb
    · rename_i he
      cases hb
      subst he
      refine ⟨by simp, fun _ => ⟨o, by simpa using hB, by simpa using hx⟩, fun _ => .inl ?_⟩
      simpa using hge
    · have hb' := H.blk b y hb
      refine ⟨by simp; omega, fun hl => ?_, fun hw => ?_⟩
      · obtain ⟨o', h1, h2⟩ := hb'.2.1 hl
        exact ⟨o', by rw [hold b y hb]; exact h1, by rw [hold b y hb]; exact h2.mono hext (Nat.le_succ _)⟩
      · rw [hold b y hb]; exact hb'.2.2 hw
  · intro b b' y y' hb hb' hne' hw hl
    simp only [lookupB] at hb hb'
    split at hb <;> split at hb'
    · rename_i e1 e2; exact absurd (e1.symm.trans e2) hne'
    · rename_i e1 e2
      subst e1
      rw [hold b' y' hb', newI_same]
      exact fun e => hne b' y' hb' hl e.symm
    · rename_i e1 e2
      subst e2
      rw [hold b y hb, newI_same]
      exact hne b y hb (by cases y <;> simp_all [Blk.wr, Blk.live])
    · rw [hold b y hb, hold b' y' hb']
      exact H.inj b b' y y' hb hb' hne' hw hl

/-- The blocks that may be written. -/
def Own (ι : Inj) (h : Heap) (k : Nat) : Prop := ∃ b x, lookupB h.bl b = some x ∧ x.wr = true ∧ k = (ι b).blk

theorem HR.self (H : HR w0 O ι h w) : HR w (Own ι h) ι h w :=
  ⟨rfl, rfl, rfl, Nat.le_refl _, fun _ _ _ => rfl, fun b x hb => ⟨(H.blk b x hb).1, (H.blk b x hb).2.1, fun hw => .inr ⟨b, x, hb, hw, rfl⟩⟩, H.inj⟩

theorem HR.back (H : HR w0 O ι h w) {ι2 : Inj} {h2 : Heap} {w2 : World} (H2 : HR w (Own ι h) ι2 h2 w2) : HR w0 O ι2 h2 w2 := by
  refine ⟨H2.os.trans H.os, H2.tape.trans H.tape, H2.output.trans H.output, Nat.le_trans H.size H2.size, fun k hk hO => ?_, fun b x hb => ⟨(H2.blk b x hb).1, (H2.blk b x hb).2.1, fun hw => ?_⟩, H2.inj⟩
  · rw [H2.old k (Nat.lt_of_lt_of_le hk H.size) ?_, H.old k hk hO]
    rintro ⟨b, x, hb, hw, rfl⟩
    rcases (H.blk b x hb).2.2 hw with h1 | h1
    · omega
    · exact hO h1
  · rcases (H2.blk b x hb).2.2 hw with h1 | ⟨b', x', hb', hw', e⟩
    · left; have := H.size; omega
    · rw [e]; exact (H.blk b' x' hb').2.2 hw'

theorem mkVarK_wr {t : TypeId} {cs : List AV} {k : Blk → Prop} (hk : mkVarK C t cs k) : mkVarK C t cs fun blk => blk.wr = true ∧ k blk := by
  unfold mkVarK at hk ⊢
  rw [underK_iff] at hk ⊢; obtain ⟨d, hd, hk⟩ := hk
  refine ⟨d, hd, ?_⟩
  split at hk
  · rw [infoK_iff] at hk ⊢; obtain ⟨ie, hi, hk⟩ := hk
    refine ⟨ie, hi, ?_⟩
    cases hr : C.rowTy t with
    | true =>
      rw [hr, cond_true] at hk
      rw [cond_true]
      split at hk
      · rw [assertB_iff] at hk ⊢; exact ⟨hk.1, rfl, hk.2⟩
      · exact hk.elim
    | false =>
      rw [hr, cond_false, assertB_iff] at hk
      rw [cond_false, assertB_iff]; exact ⟨hk.1, rfl, hk.2⟩
  · rw [lenN_iff] at hk ⊢
    exact ⟨rfl, hk⟩

/-- What a fresh operation does, wherever it comes up. -/
structure FreshDoes (C : Ctx) (o : Oper) (h h1 : Heap) (v0 : AV) (blk : Blk) (cap len : Nat) (obj : Obj) : Prop where
  hp : h1 = ⟨h.nx + 1, (h.nx, blk) :: h.bl⟩
  wr : blk.wr = true
  br : ∀ ι m B, BR ι m blk ⟨B, cap, len⟩ obj
  vr : ∀ (ι : Inj) n B, h.nx < n → ι h.nx = ⟨B, cap, len⟩ → VR ι n v0 (.pointer (some ⟨B, 0, none⟩))
  run : ∀ (cρ : Operand → Value) w, (execOp cρ o).run C.P w = .ok (.value (.pointer (some ⟨w.heap.size, 0, none⟩))) { w with heap := w.heap.push obj }

theorem fresh_does {o : Oper} (hf : freshB o = true) {ρ : Rho} {h1 : Heap} {v0 : AV} {KP : KR} (hk : opK C E o ρ h (fun v h' => v = v0 ∧ h' = h1) KP) : ∃ blk cap len obj, FreshDoes C o h h1 v0 blk cap len obj := by
  unfold freshB at hf
  split at hf
  · rename_i t hop
    unfold opK at hk
    simp only [hop] at hk
    obtain ⟨z, cz, hk, hz, hzv⟩ := zeroK_elim hk
    rw [cellsK_iff] at hk
    obtain ⟨blk, cap, len, ⟨hwr, hk⟩, hcol, hbr⟩ := mkVarK_elim (mkVarK_wr hk)
    rw [pushK_heap] at hk
    have hcells : ∀ ι n, VRs ι n (cellsOfA z) cz.cells.toList := fun ι n => VR_cells (hzv ι n)
    refine ⟨blk, cap, len, .cells cz.cells t (0, 0), ?_, hwr, fun ι m B => hbr ι m B _ (hcells ι m), ?_, fun cρ w => ?_⟩
    · cases blk <;> exact hk.2.symm
    · intro ι n B hn hι
      have hv : v0 = .ptr h.nx 0 (match blk with | .row _ _ _ cols => cols.length | _ => 0) 0 := by cases blk <;> exact hk.1.symm
      rw [hv]
      cases blk with
      | row wr c m cols =>
        simp only [VR, hι]
        refine ⟨hn, ?_, by simp⟩
        rcases hcol with h0 | h0
        · left; simp only [Blk.cols] at h0; simp [h0]
        · right; exact h0
      | _ => simp only [VR, hι]; exact ⟨hn, .inl trivial, by simp⟩
    · unfold execOp
      simp only [hop]
      have hr : (newVar t cz).run C.P w = .ok ⟨w.heap.size, 0, none⟩ { w with heap := w.heap.push (.cells cz.cells t (0, 0)) } := rfl
      simp [Instr.alloc, hz, hr]
  · cases hf
end Go.Am
