/- From the abstract machine's word to the call in the model: the law's call returns true, and all that stood stands as it did. -/
import Derived.Test.YtneeggnlgonilaaGreatDoorAmUnroll
import Derived.ChangeSame
namespace Go.Am
open Go.ChangeShapes
variable {C : Ctx} {E : Env}

/-- All that stood stands as it did. -/
structure Kept (W W' : World) : Prop where
  os : W'.os = W.os
  output : W'.output = W.output
  size : W.heap.size ≤ W'.heap.size
  old : ∀ k, k < W.heap.size → W'.heap[k]? = W.heap[k]?

theorem Kept.refl (W : World) : Kept W W := ⟨rfl, rfl, Nat.le_refl _, fun _ _ => rfl⟩
theorem HR.kept {w w' : World} {ι : Inj} {h : Heap} (H : HR w (fun _ => False) ι h w') : Kept w w' := ⟨H.os, H.output, H.size, fun k hk => H.old k hk id⟩

theorem Kept.cell {W W' : World} (h : Kept W W') {a : Addr} (ha : a.block < W.heap.size) : W'.cell? a = W.cell? a := by
  simp [World.cell?, h.old _ ha]
theorem Kept.frozen {W W' : World} (h : Kept W W') {a : Addr} (ha : a.block < W.heap.size) : W'.frozen? a = W.frozen? a := by
  simp [World.frozen?, h.old _ ha]
theorem Kept.frame {W W' : World} (h : Kept W W') (may : MemPlace → Prop) : W.keptBut W' may := by
  refine ⟨h.os, h.output, fun i hi => ?_⟩
  rw [h.old i hi]
  cases ho : W.heap[i]? with
  | none => trivial
  | some o => cases o <;> first | exact ⟨rfl, rfl, rfl, fun _ _ => rfl⟩ | exact .inr ⟨rfl, rfl⟩ | rfl

def isTrueA (v : AV) : Prop := match v with | .bool b => @cond Prop b True False | _ => False
theorem isTrueA_iff {v : AV} (h : isTrueA v) : v = .bool true := by
  unfold isTrueA at h
  split at h
  · rename_i b; cases b
    · exact h.elim
    · rfl
  · exact h.elim

theorem calls_true (hE : EnvOK C E) {f : FuncId} {args : List AV} {h : Heap} (hk : E.call f args h (fun v _ => isTrueA v) fun _ _ => False) {ι : Inj} {w : World} {cargs : Array Value} (H : HR w (fun _ => False) ι h w) (G : GlobOK C ι h.nx) (hv : VRs ι h.nx args cargs.toList) :
    Calls C.P f cargs w fun e w' => e = .returned (.bool true) ∧ Kept w w' := by
  obtain ⟨_, h2⟩ := hE.call hk H G hv
  refine (callsIn_wide.1 h2).mono fun e w' he => ?_
  cases e with
  | returned cv =>
    obtain ⟨ι', h', v, hv, _, _, H', hr⟩ := he
    have := isTrueA_iff hv
    subst this
    simp only [VR] at hr
    subst hr
    exact ⟨rfl, H'.kept⟩
  | panicked chain => obtain ⟨_, _, _, _, _, hf, _⟩ := he; exact hf.elim
  | outgrown => exact he.elim

theorem HR.none (w : World) : HR w (fun _ => False) (fun _ => ⟨0, 0, 0⟩) ⟨0, []⟩ w :=
  ⟨rfl, rfl, rfl, Nat.le_refl _, fun _ _ _ => rfl, fun b x h => by simp [lookupB] at h, fun b b' x x' h => by simp [lookupB] at h⟩

theorem calls_closed (hE : EnvOK C E) (hG : C.glob = []) {f : FuncId} (hk : (E.call f [] ⟨0, []⟩ (fun v _ => isTrueA v) fun _ _ => False) = True) (w : World) :
    Calls C.P f #[] w fun e w' => e = .returned (.bool true) ∧ Kept w w' :=
  calls_true hE (of_eq_true hk) (HR.none w) (fun g b h => by rw [hG] at h; simp [lookupB] at h) rfl

variable {H : Type} {enc : TypeId × Value → H} {P : Program}
theorem post_of_kept {f : Func} {s : ChangeSpec} {apart fresh handsOn again : Bool} {W W' : World} {args : Array Value} {v : Value} {ds gs : List (DataW H)} {before pa pv : List MemPlace}
    (hW : DataW.Whole enc P f.params.toList s.vars apart W args.toList ds gs before)
    (hres : ∀ (b : Nat) (sp : Nat → Bool) (hd : Bool), DataW.TrodAll enc P W' b sp hd f.resultTypes.toList (v.resultList f.resultTypes.size) (s.fn H (ds ++ gs)).results [])
    (hargs : ∀ sp : Nat → Bool, (∀ p ∈ before, sp p.block = true) → DataW.TrodAll enc P W' 0 sp true f.params.toList args.toList (s.fn H (ds ++ gs)).args pa)
    (hvars : ∀ sp : Nat → Bool, (∀ p ∈ before, sp p.block = true) → DataW.TrodVars enc P W' sp s.vars (s.fn H (ds ++ gs)).vars pv)
    (hps : before = pa ++ pv) (hK : Kept W W')
    (hok : ∀ (j : Nat) (t : TypeId) (r : Value), f.resultTypes[j]? = some t → (v.resultList f.resultTypes.size)[j]? = some r → Value.okWide P W' .any 0 t r) :
    s.post enc P f apart fresh handsOn again W args v W' := by
  have hold : ∀ p ∈ before, (fun b => decide (b < W.heap.size)) p.block = true := fun p hp => by simpa using hW.lt p hp
  refine ⟨ds, gs, before, [], pa, pv, hW, hres _ _ _, hargs _ hold, hvars _ hold, World.keptBut_mono (fun p hp => ⟨hp, ?_⟩) (hK.frame (· ∈ before)), fun _ => ?_⟩
  · rw [hps, List.mem_append] at hp
    exact Or.inr hp
  · obtain ⟨_, _, _, _, _, hz, hn⟩ := id hW
    refine ⟨hok, _, _, ([] ++ pa) ++ pv, ⟨[] ++ pa, pv, trodAll_append (hargs _ (fun _ _ => rfl)) (hres _ _ _), hvars _ (fun _ _ => rfl), rfl, ?_, ?_⟩, ?_⟩
    · intro b off hp
      have hb : MemPlace.cell b off ∈ before := by rw [hps]; simpa using hp
      have hlt := hW.lt _ hb
      rw [hK.frozen (by exact hlt)]
      exact hz b off hb
    · intro ha
      have := hn ha
      rw [hps] at this
      simpa using this
    · intro p hp _
      rw [hps]
      simpa using hp
end Go.Am
