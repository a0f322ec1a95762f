/- Loads and stores of the model, against the abstract heap. -/
import Derived.Test.YtneeggnlgonilaaGreatDoorAmHeap
namespace Go.Am

theorem add_block (a : Addr) (i : Nat) : (a.add i).block = a.block := by unfold Addr.add; split <;> rfl
theorem add_off (a : Addr) (i : Nat) : (a.add i).off = a.off + i := by unfold Addr.add; split <;> simp_all
theorem add_spot (a : Addr) (i : Nat) (h : a.spot = none) : (a.add i).spot = none := by unfold Addr.add; split <;> simp_all
theorem addr_add (b o i : Nat) : (⟨b, o, none⟩ : Addr).add i = ⟨b, o + i, none⟩ := by
  unfold Addr.add; split
  · subst_vars; rfl
  · rfl

theorem cell_of {w : World} {b : Nat} {arr : Array Value} {e : TypeId} {fz : Nat × Nat} (h : w.heap[b]? = some (.cells arr e fz)) (k : Nat) : w.cell? ⟨b, k, none⟩ = arr[k]? := by
  simp [World.cell?, h]

theorem frozen_of {w : World} {b : Nat} {arr : Array Value} {e : TypeId} {fz : Nat × Nat} (h : w.heap[b]? = some (.cells arr e fz)) {k : Nat} (hf : Free fz k) : w.frozen? ⟨b, k, none⟩ = false := by
  simp [World.frozen?, h, Free] at hf ⊢
  exact hf

theorem run_loadCellsFrom {P : Program} {w : World} {b o : Nat} : ∀ (vs : List Value) (i : Nat) (acc : Array Value), (∀ (m : Nat) v, vs[m]? = some v → w.cell? ⟨b, o + i + m, none⟩ = some v) →
    (loadCellsFrom ⟨b, o, none⟩ i vs.length acc).run P w = .ok (acc ++ vs.toArray) w
  | [], i, acc, _ => by simp [loadCellsFrom]
  | v :: vs, i, acc, h => by
    have h0 := h 0 v rfl
    rw [Nat.add_zero] at h0
    have ih := run_loadCellsFrom (P := P) (w := w) (b := b) (o := o) vs (i + 1) (acc.push v) fun m x hx => by
      have := h (m + 1) x (by simpa using hx)
      rw [show o + (i + 1) + m = o + i + (m + 1) from by omega]; exact this
    simp only [loadCellsFrom, List.length_cons, Sem.run_bind, addr_add, run_load, h0, Result.andThen_ok, ih]
    simp

theorem run_loadCells {P : Program} {w : World} {b o : Nat} (vs : List Value) (h : ∀ (m : Nat) v, vs[m]? = some v → w.cell? ⟨b, o + m, none⟩ = some v) :
    (loadCells ⟨b, o, none⟩ vs.length).run P w = .ok vs.toArray w := by
  unfold loadCells
  rw [run_loadCellsFrom vs 0 #[] (by simpa using h)]
  simp

def isCellV : Value → Bool
  | .agg _ | .tuple _ => false
  | _ => true

theorem oneCell_of {v : Value} (h : isCellV v = true) : v.oneCell' = true := by cases v <;> simp_all [isCellV, Value.oneCell']

/-- A store of several cells. -/
theorem run_storeCells {P : Program} {b o : Nat} {e : TypeId} {fz : Nat × Nat} : ∀ (vs : List Value) (i : Nat) (w : World) (arr : Array Value), w.heap[b]? = some (.cells arr e fz) →
    (∀ v ∈ vs, isCellV v = true) → o + i + vs.length ≤ arr.size → (∀ m, m < vs.length → Free fz (o + i + m)) →
    ∃ w', (storeCells ⟨b, o, none⟩ vs i).run P w = .ok () w' ∧ Turn w w' b (.cells ⟨putL arr.toList (o + i) vs⟩ e fz)
  | [], i, w, arr, hw, _, hs, _ => by
    refine ⟨w, by simp [storeCells], ⟨rfl, rfl, rfl, rfl, ?_, fun _ _ => rfl⟩⟩
    rw [hw]
    congr 2
    simp [putL]
  | v :: vs, i, w, arr, hw, hc, hs, hf => by
    simp only [List.length_cons] at hs hf
    have hlt : o + i < arr.size := by omega
    have hcell : w.cell? ⟨b, o + i, none⟩ = some arr[o + i] := by rw [cell_of hw]; simp [hlt]
    have hfr : w.frozen? ⟨b, o + i, none⟩ = false := frozen_of hw (by simpa using hf 0 (by omega))
    have hb := heap_lt hw
    have hset : (w.setCell ⟨b, o + i, none⟩ v).heap[b]? = some (.cells (arr.setIfInBounds (o + i) v) e fz) := by
      simp only [World.setCell, Array.getElem?_modify, hw]
      simp
    obtain ⟨w', hrun, ht⟩ := run_storeCells (P := P) (b := b) (o := o) (e := e) (fz := fz) vs (i + 1) (w.setCell ⟨b, o + i, none⟩ v) (arr.setIfInBounds (o + i) v) hset
      (fun x hx => hc x (by simp [hx])) (by simp; omega) (fun m hm => by have := hf (m + 1) (by omega); rw [show o + (i + 1) + m = o + i + (m + 1) from by omega]; exact this)
    refine ⟨w', ?_, ?_⟩
    · simp only [storeCells, Sem.run_bind, addr_add, run_store P w _ v .plain (oneCell_of (hc v (by simp))), hcell, hfr, Result.andThen_ok]
      exact hrun
    · refine ⟨ht.os, ht.tape, ht.output, ?_, ?_, ?_⟩
      · rw [ht.size]; simp [World.setCell]
      · rw [ht.at_]
        congr 2
        rw [show o + (i + 1) = o + i + 1 from by omega]
        congr 1
        simp only [Array.toList_setIfInBounds, putL]
        apply List.ext_getElem?
        intro k
        simp only [List.getElem?_append, List.getElem?_take, List.length_append, List.length_take, List.length_set, List.length_cons, List.getElem?_drop, Array.length_toList, List.getElem?_set]
        rcases Nat.lt_trichotomy k (o + i) with h1 | h1 | h1
        · rw [if_pos (by omega), if_pos (by omega), if_pos (by omega), if_neg (by omega), if_pos (by omega), if_pos (by omega), if_pos (by omega)]
        · subst h1
          rw [if_pos (by omega), if_pos (by omega), if_pos (by omega), if_pos rfl, if_pos hlt, if_pos (by omega), if_neg (by omega)]
          rw [show o + i - min (o + i) arr.size = 0 from by omega]
          rfl
        · by_cases h2 : k < o + i + 1 + vs.length
          · rw [if_pos (by omega), if_neg (by omega), if_pos (by omega), if_neg (by omega)]
            rw [show k - min (o + i) arr.size = (k - min (o + i + 1) arr.size) + 1 from by omega]
            rfl
          · rw [if_neg (by omega), if_neg (by omega)]
            rw [if_neg (by omega)]
            congr 1
            omega
      · intro j hj
        rw [ht.else_ j hj]
        simp only [World.setCell, Array.getElem?_modify]
        rw [if_neg (by simpa using fun h => hj h.symm)]

theorem Turn.refl {w : World} {k : Nat} {o : Obj} (h : w.heap[k]? = some o) : Turn w w k o := ⟨rfl, rfl, rfl, rfl, h, fun _ _ => rfl⟩
theorem Turn.trans {w w1 w2 : World} {k : Nat} {o1 o2 : Obj} (h1 : Turn w w1 k o1) (h2 : Turn w1 w2 k o2) : Turn w w2 k o2 :=
  ⟨h2.os.trans h1.os, h2.tape.trans h1.tape, h2.output.trans h1.output, h2.size.trans h1.size, h2.at_, fun j hj => (h2.else_ j hj).trans (h1.else_ j hj)⟩

theorem VR_isCell {ι : Inj} {n : Nat} : ∀ {x : AV} {v : Value}, VR ι n x v → isCellA x = true → isCellV v = true := by
  intro x v h hc
  cases x <;> simp only [VR] at h <;> first
    | (simp [isCellA] at hc; done)
    | (subst h; rfl)
    | (obtain ⟨_, _, rfl⟩ := h; rfl)
    | (obtain ⟨_, _, _, _, _, _, rfl⟩ := h; rfl)
    | (obtain ⟨_, rfl⟩ := h; rfl)
    | (obtain ⟨_, _, rfl, _⟩ := h; rfl)
    | (obtain ⟨_, rfl, _⟩ := h; rfl)

theorem VR_cells {ι : Inj} {n : Nat} {x : AV} {v : Value} (h : VR ι n x v) : VRs ι n (cellsOfA x) v.cells.toList := by
  cases x with
  | agg cs =>
    simp only [VR] at h
    obtain ⟨a, rfl, h⟩ := h
    exact h
  | tup cs =>
    have h' := h
    simp only [VR] at h
    obtain ⟨a, rfl, _⟩ := h
    exact ⟨_, [], rfl, h', rfl⟩
  | _ =>
    have h' := h
    simp only [VR] at h
    first
      | (subst h; exact ⟨_, [], rfl, h', rfl⟩)
      | (obtain ⟨_, _, rfl⟩ := h; exact ⟨_, [], rfl, h', rfl⟩)
      | (obtain ⟨_, _, _, _, _, _, rfl⟩ := h; exact ⟨_, [], rfl, h', rfl⟩)
      | (obtain ⟨_, rfl⟩ := h; exact ⟨_, [], rfl, h', rfl⟩)
      | (obtain ⟨_, _, rfl, _⟩ := h; exact ⟨_, [], rfl, h', rfl⟩)
      | (obtain ⟨_, rfl, _⟩ := h; exact ⟨_, [], rfl, h', rfl⟩)

theorem cellsK_iff {v : AV} {k : List AV → Prop} : cellsK v k ↔ k (cellsOfA v) := by cases v <;> rfl
theorem lenN_iff {α : Type} : ∀ {l : List α} {n : Nat} {k : Nat → Prop}, lenN l n k ↔ k (n + l.length)
  | [], n, k => by simp [lenN]
  | _ :: r, n, k => by simp only [lenN, lenN_iff (l := r), List.length_cons]; rw [show n + 1 + r.length = n + (r.length + 1) from by omega]

theorem turn_putObj {w : World} {k : Nat} {o o' : Obj} (h : w.heap[k]? = some o) : Turn w (w.putObj k o') k o' := by
  have hlt := heap_lt h
  exact ⟨rfl, rfl, rfl, by simp [World.putObj], by simp [World.putObj, hlt], fun j hj => World.putObj_heap_other hj⟩

end Go.Am
