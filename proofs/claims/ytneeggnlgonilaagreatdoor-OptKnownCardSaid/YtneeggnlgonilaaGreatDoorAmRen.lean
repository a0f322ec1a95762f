/- Renaming of blocks. -/
import Derived.Test.YtneeggnlgonilaaGreatDoorAmEnvB
namespace Go.Am

def renFn (φ : Nat → Nat) : Fn → Fn
  | .yield l => .yield (φ l)
  | f => f

mutual
def AV.ren (φ : Nat → Nat) : AV → AV
  | .ptr b i z j => .ptr (φ b) i z j
  | .slc b z o n => .slc (φ b) z o n
  | .mapr b => .mapr (φ b)
  | .func fn a c => .func (renFn φ fn) (renL φ a) (renL φ c)
  | .iface t v => .iface t (v.ren φ)
  | .agg cs => .agg (renL φ cs)
  | .tup cs => .tup (renL φ cs)
  | .bool b => .bool b
  | .int k n => .int k n
  | .str s => .str s
  | .nilp => .nilp
  | .nils => .nils
  | .emp => .emp
  | .mapn => .mapn
  | .nilf => .nilf
  | .nili => .nili
def renL (φ : Nat → Nat) : List AV → List AV
  | [] => []
  | x :: xs => x.ren φ :: renL φ xs
end

/- All blocks are below n. -/
mutual
def AV.bd (n : Nat) : AV → Prop
  | .ptr b _ _ _ => b < n
  | .slc b _ _ _ => b < n
  | .mapr b => b < n
  | .func fn a c => flt n fn ∧ bdL n a ∧ bdL n c
  | .iface _ v => v.bd n
  | .agg cs => bdL n cs
  | .tup cs => bdL n cs
  | _ => True
def bdL (n : Nat) : List AV → Prop
  | [] => True
  | x :: xs => x.bd n ∧ bdL n xs
end

theorem frn_ren (ι : Inj) (φ : Nat → Nat) (fn : Fn) : frn (fun b => ι (φ b)) fn = frn ι (renFn φ fn) := by cases fn <;> rfl

/- From the old names to the new: 'v' is said in new names; what it was called before is 'v.ren φ'. -/
mutual
theorem VR.back {ι : Inj} {φ : Nat → Nat} {n n2 : Nat} : ∀ (v : AV) (cv : Value), VR ι n (v.ren φ) cv → v.bd n2 → VR (fun b => ι (φ b)) n2 v cv
  | .bool _, _, h, _ | .int .., _, h, _ | .str _, _, h, _ | .nilp, _, h, _ | .nils, _, h, _ | .mapn, _, h, _ | .nilf, _, h, _ | .nili, _, h, _ => h
  | .emp, _, h, _ => h
  | .ptr b i z j, cv, h, hb => by
    simp only [AV.ren, VR] at h ⊢
    exact ⟨hb, h.2⟩
  | .slc b z o l, cv, h, hb => by
    simp only [AV.ren, VR] at h ⊢
    exact ⟨hb, h.2⟩
  | .mapr b, cv, h, hb => by
    simp only [AV.ren, VR] at h ⊢
    exact ⟨hb, h.2⟩
  | .func fn a c, cv, h, hb => by
    simp only [AV.ren, VR, AV.bd] at h hb ⊢
    obtain ⟨a', c', h1, _, h2, h3⟩ := h
    exact ⟨a', c', by rw [h1, ← frn_ren], hb.1, VRs.back _ _ h2 hb.2.1, VRs.back _ _ h3 hb.2.2⟩
  | .iface t x, cv, h, hb => by
    simp only [AV.ren, VR, AV.bd] at h hb ⊢
    obtain ⟨y, h1, h2⟩ := h
    exact ⟨y, h1, VR.back _ _ h2 hb⟩
  | .agg cs, cv, h, hb => by
    simp only [AV.ren, VR, AV.bd] at h hb ⊢
    obtain ⟨y, h1, h2⟩ := h
    exact ⟨y, h1, VRs.back _ _ h2 hb⟩
  | .tup cs, cv, h, hb => by
    simp only [AV.ren, VR, AV.bd] at h hb ⊢
    obtain ⟨y, h1, h2⟩ := h
    exact ⟨y, h1, VRs.back _ _ h2 hb⟩
theorem VRs.back {ι : Inj} {φ : Nat → Nat} {n n2 : Nat} : ∀ (v : List AV) (cv : List Value), VRs ι n (renL φ v) cv → bdL n2 v → VRs (fun b => ι (φ b)) n2 v cv
  | [], _, h, _ => h
  | x :: xs, _, h, hb => by
    simp only [renL, VRs, bdL] at h hb ⊢
    obtain ⟨y, ys, h1, h2, h3⟩ := h
    exact ⟨y, ys, h1, VR.back _ _ h2 hb.1, VRs.back _ _ h3 hb.2⟩
end

/- And on: what holds under the new names holds under the old. -/
mutual
theorem VR.fwd {ι ι' : Inj} {φ : Nat → Nat} {n n' : Nat} (hφ : ∀ b, b < n → φ b < n' ∧ ι' (φ b) = ι b) : ∀ (v : AV) (cv : Value), VR ι n v cv → VR ι' n' (v.ren φ) cv
  | .bool _, _, h | .int .., _, h | .str _, _, h | .nilp, _, h | .nils, _, h | .mapn, _, h | .nilf, _, h | .nili, _, h => h
  | .emp, _, h => h
  | .ptr b i z j, cv, h => by
    simp only [AV.ren, VR] at h ⊢
    rw [(hφ b h.1).2]
    exact ⟨(hφ b h.1).1, h.2⟩
  | .slc b z o l, cv, h => by
    simp only [AV.ren, VR] at h ⊢
    rw [(hφ b h.1).2]
    exact ⟨(hφ b h.1).1, h.2⟩
  | .mapr b, cv, h => by
    simp only [AV.ren, VR] at h ⊢
    rw [(hφ b h.1).2]
    exact ⟨(hφ b h.1).1, h.2⟩
  | .func fn a c, cv, h => by
    simp only [AV.ren, VR] at h ⊢
    obtain ⟨a', c', h1, h0, h2, h3⟩ := h
    refine ⟨a', c', ?_, ?_, VRs.fwd hφ _ _ h2, VRs.fwd hφ _ _ h3⟩
    · rw [h1]
      cases fn <;> simp only [frn, renFn]
      rw [(hφ _ h0).2]
    · cases fn <;> simp only [flt, renFn] at h0 ⊢
      exact (hφ _ h0).1
  | .iface t x, cv, h => by
    simp only [AV.ren, VR] at h ⊢
    obtain ⟨y, h1, h2⟩ := h
    exact ⟨y, h1, VR.fwd hφ _ _ h2⟩
  | .agg cs, cv, h => by
    simp only [AV.ren, VR] at h ⊢
    obtain ⟨y, h1, h2⟩ := h
    exact ⟨y, h1, VRs.fwd hφ _ _ h2⟩
  | .tup cs, cv, h => by
    simp only [AV.ren, VR] at h ⊢
    obtain ⟨y, h1, h2⟩ := h
    exact ⟨y, h1, VRs.fwd hφ _ _ h2⟩
theorem VRs.fwd {ι ι' : Inj} {φ : Nat → Nat} {n n' : Nat} (hφ : ∀ b, b < n → φ b < n' ∧ ι' (φ b) = ι b) : ∀ (v : List AV) (cv : List Value), VRs ι n v cv → VRs ι' n' (renL φ v) cv
  | [], _, h => h
  | x :: xs, _, h => by
    simp only [renL, VRs] at h ⊢
    obtain ⟨y, ys, h1, h2, h3⟩ := h
    exact ⟨y, ys, h1, VR.fwd hφ _ _ h2, VRs.fwd hφ _ _ h3⟩
end

def renTm (φ : Nat → Nat) : List (Nat × AV) → List (Nat × AV)
  | [] => []
  | (i, v) :: r => (i, v.ren φ) :: renTm φ r
def bdTm (n : Nat) (tm : List (Nat × AV)) : Prop := ∀ i v, lookupB tm i = some v → v.bd n
def renEs (φ : Nat → Nat) : List (AV × AV) → List (AV × AV)
  | [] => []
  | (k, v) :: r => (k.ren φ, v.ren φ) :: renEs φ r
def bdEs (n : Nat) : List (AV × AV) → Prop
  | [] => True
  | (k, v) :: r => k.bd n ∧ v.bd n ∧ bdEs n r

def Blk.ren (φ : Nat → Nat) : Blk → Blk
  | .cells wr z cap cs => .cells wr z cap (renL φ cs)
  | .row wr cap n cols => .row wr cap n cols
  | .loop st p tm nt ps a b d => .loop st p (renTm φ tm) nt ps a b (φ d)
  | .defd s => .defd s
  | .mp es => .mp (renEs φ es)
  | .mpf kd vd g => .mpf kd vd g
  | .dead => .dead
def Blk.bd (n : Nat) : Blk → Prop
  | .cells _ _ _ cs => bdL n cs
  | .loop _ _ tm _ _ _ _ d => bdTm n tm ∧ d < n
  | .mp es => bdEs n es
  | _ => True
end Go.Am
