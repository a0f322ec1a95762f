/- Specifications of functions that write through a pointer: out of a run on a heap of one block. -/
import Derived.Test.YtneeggnlgonilaaGreatDoorAmSpec
namespace Go.Am
open Go.RowKit
variable {C : Ctx} {E : Env} {w0 : World} {O : Nat → Prop}

mutual
theorem ren_id : ∀ (v : AV), v.ren id = v
  | .bool _ | .int .. | .str _ | .nilp | .nils | .mapn | .nilf | .nili | .emp => rfl
  | .ptr .. | .slc .. | .mapr _ => rfl
  | .func fn a c => by
    have : renFn id fn = fn := by cases fn <;> rfl
    simp only [AV.ren, this, renL_id a, renL_id c]
  | .iface t x => by simp only [AV.ren, ren_id x]
  | .agg cs => by simp only [AV.ren, renL_id cs]
  | .tup cs => by simp only [AV.ren, renL_id cs]
theorem renL_id : ∀ (v : List AV), renL id v = v
  | [] => rfl
  | x :: xs => by simp only [renL, ren_id x, renL_id xs]
end

theorem renTm_id : ∀ (tm : List (Nat × AV)), renTm id tm = tm
  | [] => rfl
  | (i, v) :: r => by simp only [renTm, ren_id v, renTm_id r]
theorem renEs_id : ∀ (es : List (AV × AV)), renEs id es = es
  | [] => rfl
  | (k, v) :: r => by simp only [renEs, ren_id k, ren_id v, renEs_id r]
theorem blk_ren_id (x : Blk) : x.ren id = x := by
  cases x <;> simp only [Blk.ren, renL_id, renTm_id, renEs_id, id_eq]

theorem bdL_of {n : Nat} : ∀ {l : List AV}, (∀ (k : Nat) v, l[k]? = some v → v.bd n) → bdL n l
  | [], _ => trivial
  | v :: r, h => ⟨h 0 v rfl, bdL_of fun k v hm => h (k + 1) v (by simpa using hm)⟩

theorem ER.bd {ι : Inj} {n : Nat} : ∀ {es : List (AV × AV)} {l : List MapEntry}, ER ι n es l → bdEs n es
  | [], _, _ => trivial
  | (k, v) :: r, _, h => by
    obtain ⟨e, es, _, h2, h3, h4⟩ := h
    exact ⟨VR.bd _ _ h2, VR.bd _ _ h3, ER.bd h4⟩

theorem BR.bd {ι : Inj} {n : Nat} {x : Blk} {bi : BI} {o : Obj} (h : BR ι n x bi o) : x.bd n := by
  cases x with
  | cells wr z cap cs =>
    obtain ⟨arr, e, fz, h1, h2, _⟩ := h
    exact bdL_of fun k v hk => by
      obtain ⟨y, _, hv⟩ := h2 k v hk
      exact VR.bd _ _ hv
  | row wr cap m cols => trivial
  | loop st pend tm nt ps assign body d =>
    obtain ⟨L, h1, h2, h3, h4, h5, h6, h7, h8, h9⟩ := h
    refine ⟨fun i v hi => ?_, h9⟩
    obtain ⟨cv, _, hv⟩ := h4.2 i v hi
    exact VR.bd _ _ hv
  | defd s => trivial
  | mp es =>
    obtain ⟨ents, clock, h1, h2⟩ := h
    exact h2.bd
  | mpf kd vd g => trivial
  | dead => trivial

theorem HR.bd {ι : Inj} {h : Heap} {w : World} (H : HR w0 O ι h w) {b : Nat} {x : Blk} (hb : lookupB h.bl b = some x) (hl : x.live = true) : x.bd h.nx := by
  obtain ⟨o, _, hr⟩ := H.get hb hl
  exact hr.bd

/-- What is done to a part of the heap alone. -/
theorem frameSpec_ok (hG : C.glob = []) (hE : EnvOK C E) {f : FuncId} {s : Spec}
    (hs : ∀ {args : List AV} {h : Heap} {K KP : KR}, s args h K KP → ∃ φ args2 h2 Post, args = renL φ args2 ∧ bdL h2.nx args2 ∧ (∀ {w0 O ι w}, HR w0 O ι h w → Morph φ h2 h) ∧ (E.call f args2 h2 Post fun _ _ => False) ∧
      ∀ {w0 O ι w}, HR w0 O ι h w → ∀ v2 h2', Post v2 h2' → ∃ h' h'' ψ v, Merged φ h h2 h2' h' ∧ Morph ψ h'' h' ∧ (∀ b, b < h.nx → ψ b = b) ∧ h.nx ≤ h''.nx ∧ v.bd h''.nx ∧ v.ren ψ = v2.ren (upN φ h.nx h2.nx) ∧ K v h'')
    (sharp : ∀ args h, Sh2 fun K => s args h K noKP) : SpecOK C f s := by
  refine ⟨fun {args h K KP} hk {w0 O ι w cargs} H G hv => ?_, sharp⟩
  obtain ⟨φ, args2, h2, Post, rfl, hb, M, hrun, hpost⟩ := hs hk
  have M := M H
  obtain ⟨h1, hc⟩ := hE.call hrun (H.frame_in M) (fun g b h => by rw [hG] at h; simp [lookupB] at h) (VRs.back _ _ hv hb)
  refine ⟨h1, hc.mono fun e w' he => ?_⟩
  cases e with
  | returned cv =>
    obtain ⟨ι2, h2', v2, hp, he2, hn2, H2, hr⟩ := he
    obtain ⟨h', h'', ψ, v, MG, MM, hψ, hnx, hvb, hve, hK⟩ := hpost H v2 h2' hp
    have HF := H.frame_out M H2 he2 hn2 MG
    have HM := HF.morph MM
    have hup : ∀ b, b < h2'.nx → upN φ h.nx h2.nx b < h'.nx ∧ glue ι ι2 h.nx h2.nx (upN φ h.nx h2.nx b) = ι2 b := fun b hb => by
      rw [MG.nx]; exact upN_ok M he2 hb
    have hv2 := VR.fwd hup v2 cv hr
    rw [← hve] at hv2
    refine ⟨_, h'', v, hK, fun b hb => ?_, hnx, HM, VR.back v cv hv2 hvb⟩
    show glue ι ι2 h.nx h2.nx (ψ b) = ι b
    rw [hψ b hb]
    exact glue_ext ι ι2 h.nx h2.nx b hb
  | panicked chain => obtain ⟨_, _, _, _, _, hf, _⟩ := he; exact hf.elim
  | outgrown => exact he.elim

/-! ### one pointer to a block of cells; 'i': its place among the arguments -/
def splitK : Nat → List AV → (List AV → AV → List AV → Prop) → Prop
  | _, [], _ => False
  | 0, x :: r, k => k [] x r
  | i + 1, y :: r, k => splitK i r fun a x b => k (y :: a) x b

theorem splitK_elim : ∀ {i : Nat} {l : List AV} {k : List AV → AV → List AV → Prop}, splitK i l k → ∃ a x b, k a x b ∧ l = a ++ x :: b ∧ a.length = i ∧ ∀ k' : List AV → AV → List AV → Prop, k' a x b → splitK i l k'
  | i, [], k, h => by cases i <;> exact h.elim
  | 0, x :: r, k, h => ⟨[], x, r, h, rfl, rfl, fun _ h => h⟩
  | i + 1, y :: r, k, h => by
    obtain ⟨a, x, b, h1, h2, h3, h4⟩ := splitK_elim (i := i) h
    exact ⟨y :: a, x, b, h1, by simp [h2], by simp [h3], fun k' hk => h4 _ hk⟩

def ptrSpec (i : Nat) (F : List AV → List AV → List AV → Tree (AV × List AV)) : Spec := fun args h K _ =>
  splitK i args fun a x b => match x with
    | .ptr p 0 0 0 => h.getK p fun
      | .cells true z cap cs => assertB (Nat.beq z 1) ((F a b cs).run fun r => match r with | (v, cs') => h.setK p (.cells true z cap cs') fun h' => K v h')
      | _ => False
    | _ => False

theorem bdL_append {n : Nat} : ∀ {a b : List AV}, bdL n (a ++ b) ↔ bdL n a ∧ bdL n b
  | [], b => by simp [bdL]
  | x :: a, b => by simp [bdL, bdL_append (a := a), and_assoc]
theorem renL_append (φ : Nat → Nat) : ∀ (a b : List AV), renL φ (a ++ b) = renL φ a ++ renL φ b
  | [], b => rfl
  | x :: a, b => by simp [renL, renL_append φ a b]

mutual
theorem bd_mono {n m : Nat} (h : n ≤ m) : ∀ (v : AV), v.bd n → v.bd m
  | .bool _, _ | .int .., _ | .str _, _ | .nilp, _ | .nils, _ | .mapn, _ | .nilf, _ | .nili, _ | .emp, _ => trivial
  | .ptr .., hb => Nat.lt_of_lt_of_le hb h
  | .slc .., hb => Nat.lt_of_lt_of_le hb h
  | .mapr _, hb => Nat.lt_of_lt_of_le hb h
  | .func fn a c, hb => ⟨by cases fn <;> first | trivial | exact Nat.lt_of_lt_of_le hb.1 h, bdL_mono h a hb.2.1, bdL_mono h c hb.2.2⟩
  | .iface t x, hb => bd_mono h x hb
  | .agg cs, hb => bdL_mono h cs hb
  | .tup cs, hb => bdL_mono h cs hb
theorem bdL_mono {n m : Nat} (h : n ≤ m) : ∀ (v : List AV), bdL n v → bdL m v
  | [], _ => trivial
  | x :: xs, hb => ⟨bd_mono h x hb.1, bdL_mono h xs hb.2⟩
end

def ptrBody (F : List AV → List AV → List AV → Tree (AV × List AV)) (h : Heap) (K : KR) (a : List AV) (x : AV) (b : List AV) : Prop := match x with
  | .ptr p 0 0 0 => h.getK p fun
    | .cells true z cap cs => assertB (Nat.beq z 1) ((F a b cs).run fun r => match r with | (v, cs') => h.setK p (.cells true z cap cs') fun h' => K v h')
    | _ => False
  | _ => False

theorem ptrBody_sharp (F : List AV → List AV → List AV → Tree (AV × List AV)) (h : Heap) (a : List AV) (x : AV) (b : List AV) : Sh2 fun K => ptrBody F h K a x b := by
  refine sh_of2 ?_
  show Sh fun K : AV × Heap → Prop => ptrBody F h (fun u v => K (u, v)) a x b
  unfold ptrBody
  split
  · refine sh_bind (sh_hgetK _ _) fun blk => ?_
    split
    · refine sh_assert (sh_bind (sh_tree _) fun r => ?_)
      obtain ⟨v, cs'⟩ := r
      exact sh_bind (m := h.setK _ (.cells true _ _ cs')) (sh_hsetK _ _ _) fun h' => sh_pure (v, h')
    · exact sh_false
  · exact sh_false

theorem ptrSpec_sharp (i : Nat) (F : List AV → List AV → List AV → Tree (AV × List AV)) (args : List AV) (h : Heap) : Sh2 fun K => ptrSpec i F args h K noKP := by
  intro K hk
  obtain ⟨a, x, b, h1, _, _, h4⟩ := splitK_elim hk
  obtain ⟨v, h', h5, h6⟩ := ptrBody_sharp F h a x b K h1
  exact ⟨v, h', h5, fun K' hk' => h4 (fun a x b => ptrBody F h K' a x b) (h6 K' hk')⟩

theorem ptrSpec_ok (hG : C.glob = []) (hE : EnvOK C E) {f : FuncId} {i : Nat} {F : List AV → List AV → List AV → Tree (AV × List AV)}
    (hs : ∀ a b cs v cs', a.length = i → (F a b cs).val = some (v, cs') → (bdL 0 a ∧ bdL 0 b ∧ bdL 0 cs ∧ v.bd 0 ∧ bdL 0 cs') ∧
      ∀ cap (k : AV → Blk → Prop), k v (.cells true 1 cap cs') → E.call f (a ++ .ptr 0 0 0 0 :: b) ⟨1, [(0, .cells true 1 cap cs)]⟩ (fun v' h' => h'.getK 0 fun x => k v' x) noKP) : SpecOK C f (ptrSpec i F) := by
  refine frameSpec_ok hG hE (fun {args h K KP} hk => ?_) (ptrSpec_sharp i F)
  obtain ⟨a, x, b, hk2, rfl, hl, hx4⟩ := splitK_elim hk
  clear hx4
  clear hk
  have hk : ptrBody F h K a x b := hk2
  clear hk2
  unfold ptrBody at hk
  split at hk
  · rename_i p
    rw [getK_heap] at hk; obtain ⟨y, hy, hk⟩ := hk
    split at hk
    · rename_i z cap cs
      rw [assertB_iff] at hk; obtain ⟨hz, hk⟩ := hk
      obtain ⟨⟨v, cs'⟩, hF, hk⟩ := Tree.run_iff.1 hk
      have hz := Nat.eq_of_beq_eq_true hz
      subst hz
      simp only at hk
      rw [setK_heap] at hk; obtain ⟨hsome, hk⟩ := hk
      obtain ⟨⟨b1, b2, b3, b4, b5⟩, hrun⟩ := hs a b cs v cs' hl hF
      refine ⟨fun _ => p, a ++ .ptr 0 0 0 0 :: b, ⟨1, [(0, .cells true 1 cap cs)]⟩, _, ?_, ?_, fun H => ?_, hrun cap (fun v' x => v' = v ∧ x = .cells true 1 cap cs') ⟨rfl, rfl⟩, fun H v2 h2' hp => ?_⟩
      · rw [renL_append]
        simp only [renL, renL_bd0 _ a b1, renL_bd0 _ b b2]
        rfl
      · rw [bdL_append]
        exact ⟨bdL_mono (Nat.zero_le _) _ b1, Nat.lt_succ_self 0, bdL_mono (Nat.zero_le _) _ b2⟩
      · refine ⟨fun c hc => (H.blk p _ hy).1, fun c c' hc hc' _ => ?_, fun c y' hc => ?_⟩
        · have hc : c < 1 := hc
          have hc' : c' < 1 := hc'
          omega
        · simp only [lookupB] at hc
          split at hc
          · rename_i e; subst e; cases hc
            refine ⟨Nat.lt_succ_self 0, fun _ => ⟨bdL_mono (Nat.zero_le _) _ b3, _, hy, ?_⟩⟩
            simp only [Blk.ren, renL_bd0 _ cs b3]
            exact WkB.refl rfl
          · cases hc
      · rw [getK_heap] at hp; obtain ⟨x', hx', rfl, rfl⟩ := hp
        refine ⟨⟨h.nx + (h2'.nx - 1), updL h.bl p (.cells true 1 cap cs')⟩, ⟨h.nx, updL h.bl p (.cells true 1 cap cs')⟩, id, v2, ⟨rfl, fun c y' hc => ?_, fun c y' hc hlv => ?_⟩, ⟨fun c hc => ?_, fun c c' _ _ e => e, fun c y' hc => ?_⟩, fun _ _ => rfl, Nat.le_refl _, bd_mono (Nat.zero_le _) _ b4, ?_, hk⟩
        · have : c < h.nx := by
            rw [lookup_updL hsome] at hc
            split at hc
            · rename_i e; subst e; exact (H.blk c _ hy).1
            · exact (H.blk c _ hc).1
          show c < h.nx + (h2'.nx - 1)
          omega
        · rw [lookup_updL hsome] at hc
          split at hc
          · rename_i e
            cases hc; subst e
            exact .inl ⟨0, _, hx', rfl, by simp only [Blk.ren, renL_bd0 _ cs' b5], .inr ⟨_, rfl, rfl⟩⟩
          · rename_i e
            exact .inr ⟨hc, fun b' y2 _ _ h => e h.symm⟩
        · show c < h.nx + (h2'.nx - 1)
          have hc : c < h.nx := hc
          omega
        · have hc0 := hc
          rw [lookup_updL hsome] at hc
          split at hc
          · rename_i e
            cases hc; subst e
            exact ⟨(H.blk c _ hy).1, fun _ => ⟨bdL_mono (Nat.zero_le _) _ b5, _, hc0, by rw [blk_ren_id]; exact WkB.refl rfl⟩⟩
          · exact ⟨(H.blk c _ hc).1, fun hl => ⟨H.bd hc hl, _, hc0, by rw [blk_ren_id]; exact WkB.refl hl⟩⟩
        · rw [ren_bd0 _ v2 b4, ren_bd0 _ v2 b4]
    · exact hk.elim
  · exact hk.elim
end Go.Am
