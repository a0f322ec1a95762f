/- Operations that read, write, or lay memory. -/
import Derived.Test.YtneeggnlgonilaaGreatDoorAmOpA
namespace Go.Am
variable {C : Ctx} {ι : Inj} {w0 : World} {O : Nat → Prop} {h : Heap} {w : World}

/-- A value, and the heap behind. -/
def Done (w0 : World) (O : Nat → Prop) (ι : Inj) (h : Heap) (K : KR) (cv : Value) (w' : World) : Prop :=
  ∃ ι' h' v, K v h' ∧ Ext ι ι' h.nx ∧ h.nx ≤ h'.nx ∧ HR w0 O ι' h' w' ∧ VR ι' h'.nx v cv

theorem Done.here {K : KR} {v : AV} {cv : Value} (H : HR w0 O ι h w) (hk : K v h) (hv : VR ι h.nx v cv) : Done w0 O ι h K cv w := ⟨ι, h, v, hk, Ext.refl _ _, Nat.le_refl _, H, hv⟩

theorem getK_heap {b : Nat} {k : Blk → Prop} : h.getK b k ↔ ∃ x, lookupB h.bl b = some x ∧ k x := getK_iff
theorem setK_heap {b : Nat} {x : Blk} {k : Heap → Prop} : h.setK b x k ↔ (lookupB h.bl b).isSome = true ∧ k ⟨h.nx, updL h.bl b x⟩ := updK_iff
theorem pushK_heap {x : Blk} {k : Nat → Heap → Prop} : h.pushK x k ↔ k h.nx ⟨h.nx + 1, (h.nx, x) :: h.bl⟩ := Iff.rfl

theorem atK_iff {c : Col} {i : Nat} {k : AV → Prop} : c.atK i k ↔ k (c.at i) := by cases c <;> rfl
theorem VR_at {n : Nat} (c : Col) (i : Nat) : VR ι n (c.at i) (c.val i) := by cases c <;> rfl
theorem VR_at_eq {n : Nat} {c : Col} {i : Nat} {v : Value} (hv : VR ι n (c.at i) v) : v = c.val i := by cases c <;> exact hv
theorem isCell_val (c : Col) (i : Nat) : isCellV (c.val i) = true := by cases c <;> rfl

theorem row_lt {i j z m : Nat} (hi : i < m) (hj : j < z) : i * z + j < m * z := by
  have : (i + 1) * z ≤ m * z := Nat.mul_le_mul_right z hi
  rw [Nat.add_mul, Nat.one_mul] at this
  omega

/-- What a load hands back. -/
theorem loadK_elim {t : TypeId} {p : AV} {K : KV} (hk : loadK C t p h K) (H : HR w0 O ι h w) {cp : Value} (hp : VR ι h.nx p cp) :
    ∃ v cv, K v ∧ VR ι h.nx v cv ∧ (Instr.loadAt t cp).run C.P w = .ok cv w := by
  unfold loadK at hk
  split at hk
  · rename_i b i z j
    simp only [VR] at hp
    obtain ⟨hbn, hil, rfl⟩ := hp
    rw [infoK_iff] at hk; obtain ⟨inf, hi, hk⟩ := hk
    rw [underK_iff] at hk; obtain ⟨d, hd, hk⟩ := hk
    rw [getK_heap] at hk; obtain ⟨x, hx, hk⟩ := hk
    have hrun : ∀ {cv : Value}, (loadVar t ⟨(ι b).blk, i * z + j, none⟩).run C.P w = .ok cv w → (Instr.loadAt t (.pointer (some ⟨(ι b).blk, i * z + j, none⟩))).run C.P w = .ok cv w := by
      intro cv h; simp [Instr.loadAt, Instr.sureAddr, h]
    cases x with
    | cells wr z' cap cs =>
      obtain ⟨o, ho, arr, e, fz, rfl, hcs, _⟩ := H.get hx rfl
      simp only at hk
      cases hag : isAggD d with
      | true =>
        rw [hag] at hk
        rw [cond_true, takeK_iff] at hk
        obtain ⟨hlen, hk⟩ := hk
        have hex : ∃ cvs : List Value, cvs.length = inf.size ∧ VRs ι h.nx ((cs.drop (i * z + j)).take inf.size) cvs ∧ ∀ (m : Nat) v, cvs[m]? = some v → arr[i * z + j + m]? = some v := by
          refine ⟨(arr.toList.drop (i * z + j)).take inf.size, ?_, ?_, ?_⟩
          · have : i * z + j + inf.size ≤ arr.size := by
              rcases Nat.eq_zero_or_pos inf.size with h0 | h0
              · rcases Nat.eq_zero_or_pos cs.length with h1 | h1
                · omega
                · obtain ⟨y, hy, _⟩ := hcs (cs.length - 1) _ (by rw [List.getElem?_eq_getElem (by omega)])
                  have := (Array.getElem?_eq_some_iff.1 hy).1
                  omega
              · obtain ⟨y, hy, _⟩ := hcs (i * z + j + inf.size - 1) _ (by rw [List.getElem?_eq_getElem (by omega)])
                have := (Array.getElem?_eq_some_iff.1 hy).1
                omega
            simp; omega
          · have hl : i * z + j + inf.size ≤ arr.size := by
              rcases Nat.eq_zero_or_pos inf.size with h0 | h0
              · rcases Nat.eq_zero_or_pos cs.length with h1 | h1
                · omega
                · obtain ⟨y, hy, _⟩ := hcs (cs.length - 1) _ (by rw [List.getElem?_eq_getElem (by omega)])
                  have := (Array.getElem?_eq_some_iff.1 hy).1
                  omega
              · obtain ⟨y, hy, _⟩ := hcs (i * z + j + inf.size - 1) _ (by rw [List.getElem?_eq_getElem (by omega)])
                have := (Array.getElem?_eq_some_iff.1 hy).1
                omega
            refine VRs.of_get (by simp; omega) fun k a ha => ?_
            rw [List.getElem?_take] at ha
            split at ha
            · rename_i hkl
              rw [List.getElem?_drop] at ha
              obtain ⟨y, hy, hv⟩ := hcs _ a ha
              refine ⟨y, ?_, hv⟩
              rw [List.getElem?_take, if_pos hkl, List.getElem?_drop]
              simpa using hy
            · simp at ha
          · intro m v hm
            rw [List.getElem?_take] at hm
            split at hm
            · rw [List.getElem?_drop] at hm; simpa using hm
            · simp at hm
        obtain ⟨cvs, hl, hv, hget⟩ := hex
        refine ⟨_, .agg cvs.toArray, hk, ⟨_, rfl, by simpa using hv⟩, hrun ?_⟩
        have hload := run_loadCells (P := C.P) (w := w) (b := (ι b).blk) (o := i * z + j) cvs fun m v hm => by rw [cell_of ho]; exact hget m v hm
        rw [hl] at hload
        simp [loadVar, run_agg hd, hag, run_size hi, hload]
      | false =>
        rw [hag] at hk
        rw [cond_false, nthK_iff] at hk
        obtain ⟨a, ha, hk⟩ := hk
        obtain ⟨y, hy, hv⟩ := hcs _ a ha
        refine ⟨a, y, hk, hv, hrun ?_⟩
        simp [loadVar, run_agg hd, hag, cell_of ho, hy]
    | row wr cap m cols =>
      obtain ⟨o, ho, arr, e, fz, rfl, hcs, _, hlen, _⟩ := H.get hx rfl
      simp only at hk
      rw [assertB_iff] at hk; obtain ⟨hz, hk⟩ := hk
      have hz : z = cols.length := Nat.eq_of_beq_eq_true hz
      subst hz
      have him : cols ≠ [] → i < m := by
        intro hne
        rcases hil with h0 | h0
        · exact absurd (List.length_eq_zero_iff.1 h0) hne
        · rw [← hlen]; exact h0
      cases hag : isAggD d with
      | true =>
        rw [hag] at hk
        rw [cond_true, takeK_iff] at hk
        obtain ⟨hle, hk⟩ := hk
        obtain ⟨r, hrl, hr, hk⟩ := mapK_elim (R := fun c y => y = c.at i) (fun c _ Kx hc => ⟨_, rfl, atK_iff.1 hc⟩) hk
        let cvs := ((cols.drop j).take inf.size).map fun c => c.val i
        have hcl : cvs.length = inf.size := by simp [cvs]; omega
        have hv : VRs ι h.nx r cvs := by
          refine VRs.of_get (by rw [hcl, hrl]; simp; omega) fun k a ha => ?_
          have hk' : k < inf.size := by
            have := (List.getElem?_eq_some_iff.1 ha).1
            rw [hrl] at this; simp at this; omega
          obtain ⟨c, hc⟩ : ∃ c, ((cols.drop j).take inf.size)[k]? = some c := ⟨_, List.getElem?_eq_getElem (by simp; omega)⟩
          obtain ⟨y, hy, rfl⟩ := hr k c hc
          rw [hy] at ha; cases ha
          refine ⟨c.val i, ?_, VR_at c i⟩
          simp only [cvs, List.getElem?_map, hc, Option.map_some]
        refine ⟨_, .agg cvs.toArray, hk, ⟨_, rfl, by simpa using hv⟩, hrun ?_⟩
        have hload := run_loadCells (P := C.P) (w := w) (b := (ι b).blk) (o := i * cols.length + j) cvs fun k v hm => by
          rw [cell_of ho]
          simp only [cvs, List.getElem?_map] at hm
          obtain ⟨c, hc, rfl⟩ := Option.map_eq_some_iff.1 hm
          rw [List.getElem?_take] at hc
          split at hc
          · rw [List.getElem?_drop] at hc
            have hne : cols ≠ [] := by intro e; simp [e] at hc
            have := hcs i (him hne) (j + k) c hc
            rw [show i * cols.length + j + k = i * cols.length + (j + k) from by omega]; exact this
          · simp at hc
        rw [hcl] at hload
        simp [loadVar, run_agg hd, hag, run_size hi, hload]
      | false =>
        rw [hag] at hk
        rw [cond_false, nthK_iff] at hk
        obtain ⟨c, hc, hk⟩ := hk
        rw [atK_iff] at hk
        have hne : cols ≠ [] := by intro e; simp [e] at hc
        refine ⟨_, c.val i, hk, VR_at c i, hrun ?_⟩
        simp [loadVar, run_agg hd, hag, cell_of ho, hcs i (him hne) j c hc]
    | loop => exact hk.elim
    | defd => exact hk.elim
    | mp => exact hk.elim
    | mpf => exact hk.elim
    | dead => exact hk.elim
  · exact hk.elim

theorem setAt_elim {c : Col} {i : Nat} {v : AV} {k : Col → Prop} (hk : c.setAt i v k) : ∃ c', k c' ∧ v = c'.at i ∧ ∀ m, m ≠ i → c'.val m = c.val m := by
  unfold Col.setAt at hk
  split at hk
  · rw [assertB_iff] at hk; obtain ⟨he, hk⟩ := hk
    have he := of_decide_eq_true he
    subst he
    exact ⟨_, hk, by simp [Col.at, updF], fun m hm => by simp [Col.val, updF, hm]⟩
  · exact ⟨_, hk, by simp [Col.at, updF], fun m hm => by simp [Col.val, updF, hm]⟩
  · exact ⟨_, hk, by simp [Col.at, updF], fun m hm => by simp [Col.val, updF, hm]⟩
  · exact hk.elim

theorem colsPut_elim : ∀ {cols : List Col} {i j : Nat} {vs : List AV} {k : List Col → Prop}, colsPut cols i j vs k → ∃ cols', k cols' ∧ cols'.length = cols.length ∧ j + vs.length ≤ cols.length ∧
    ∀ (q : Nat) (c : Col), cols[q]? = some c → ∃ c', cols'[q]? = some c' ∧ (∀ m, m ≠ i → c'.val m = c.val m) ∧ (q < j ∨ j + vs.length ≤ q → c'.val i = c.val i) ∧ (∀ x, j ≤ q → vs[q - j]? = some x → x = c'.at i)
  | cs, i, 0, [], k, hk => by
    cases cs <;> exact ⟨_, hk, rfl, by simp, fun q c hc => ⟨c, hc, fun _ _ => rfl, fun _ => rfl, fun x _ hx => by simp at hx⟩⟩
  | [], i, j + 1, [], k, hk => by simp [colsPut] at hk
  | c :: cs, i, j + 1, [], k, hk => by
    simp only [colsPut] at hk
    obtain ⟨r, hk, hl, hle, hr⟩ := colsPut_elim (cols := cs) hk
    refine ⟨c :: r, hk, by simp [hl], by simp at hle ⊢; omega, fun q d hd => ?_⟩
    cases q with
    | zero => simp at hd; subst hd; exact ⟨c, rfl, fun _ _ => rfl, fun _ => rfl, fun x h0 => by omega⟩
    | succ q =>
      obtain ⟨c', h1, h2, h3, h4⟩ := hr q d (by simpa using hd)
      exact ⟨c', by simpa using h1, h2, fun h => h3 (by simp at h ⊢; omega), fun x hj hx => by simp at hx⟩
  | [], i, j, v :: vs, k, hk => by cases j <;> simp [colsPut] at hk
  | c :: cs, i, 0, v :: vs, k, hk => by
    simp only [colsPut] at hk
    obtain ⟨c', hk, hv, hc'⟩ := setAt_elim hk
    obtain ⟨r, hk, hl, hle, hr⟩ := colsPut_elim (cols := cs) hk
    refine ⟨c' :: r, hk, by simp [hl], by simp at hle ⊢; omega, fun q d hd => ?_⟩
    cases q with
    | zero =>
      simp at hd; subst hd
      exact ⟨c', rfl, hc', fun h => by simp at h, fun x _ hx => by simp at hx; subst hx; exact hv⟩
    | succ q =>
      obtain ⟨c2, h1, h2, h3, h4⟩ := hr q d (by simpa using hd)
      exact ⟨c2, by simpa using h1, h2, fun h => h3 (by simp at h ⊢; omega), fun x _ hx => h4 x (by omega) (by simpa using hx)⟩
  | c :: cs, i, j + 1, v :: vs, k, hk => by
    simp only [colsPut] at hk
    obtain ⟨r, hk, hl, hle, hr⟩ := colsPut_elim (cols := cs) hk
    refine ⟨c :: r, hk, by simp [hl], by simp at hle ⊢; omega, fun q d hd => ?_⟩
    cases q with
    | zero => simp at hd; subst hd; exact ⟨c, rfl, fun _ _ => rfl, fun _ => rfl, fun x h0 => by omega⟩
    | succ q =>
      obtain ⟨c', h1, h2, h3, h4⟩ := hr q d (by simpa using hd)
      refine ⟨c', by simpa using h1, h2, fun h => h3 (by simp at h ⊢; omega), fun x hj hx => h4 x (by omega) ?_⟩
      rw [← hx]; congr 1; omega

theorem putL_get {α : Type} {l : List α} {j : Nat} {vs : List α} (hle : j + vs.length ≤ l.length) (k : Nat) : (putL l j vs)[k]? = if j ≤ k ∧ k < j + vs.length then vs[k - j]? else l[k]? := by
  simp only [putL, List.getElem?_append, List.length_append, List.length_take, List.getElem?_take, List.getElem?_drop]
  by_cases h1 : k < j
  · rw [if_pos (by omega), if_pos (by omega), if_pos h1, if_neg (by omega)]
  · by_cases h2 : k < j + vs.length
    · rw [if_pos (by omega), if_neg (by omega), if_pos (by omega)]
      congr 1; omega
    · rw [if_neg (by omega), if_neg (by omega)]
      congr 1; omega

theorem putL_length {α : Type} {l : List α} {j : Nat} {vs : List α} (hle : j + vs.length ≤ l.length) : (putL l j vs).length = l.length := by
  simp [putL]; omega

/-- What a store does. -/
theorem storeK_elim {t : TypeId} {p v : AV} {K : Heap → Prop} (hk : storeK C t p v h K) (H : HR w0 O ι h w) {cp cv : Value} (hp : VR ι h.nx p cp) (hv : VR ι h.nx v cv) :
    ∃ w' h', (Instr.storeAt t cp cv).run C.P w = .ok () w' ∧ K h' ∧ h'.nx = h.nx ∧ HR w0 O ι h' w' := by
  unfold storeK at hk
  split at hk
  · rename_i b i z j
    simp only [VR] at hp
    obtain ⟨hbn, hil, rfl⟩ := hp
    rw [infoK_iff] at hk; obtain ⟨inf, hi, hk⟩ := hk
    rw [cellsK_iff] at hk
    rw [assertB_iff] at hk; obtain ⟨hsz, hk⟩ := hk
    rw [getK_heap] at hk; obtain ⟨x, hx, hk⟩ := hk
    have hcv := VR_cells hv
    simp only [Bool.and_eq_true] at hsz
    obtain ⟨hsz, hall⟩ := hsz
    have hsz : (cellsOfA v).length = inf.size := Nat.eq_of_beq_eq_true hsz
    have hcl : cv.cells.toList.length = inf.size := by rw [hcv.length]; exact hsz
    have hcell : ∀ c ∈ cv.cells.toList, isCellV c = true := by
      intro c hc
      obtain ⟨k, hk⟩ := List.getElem?_of_mem hc
      have hkl := (List.getElem?_eq_some_iff.1 hk).1
      obtain ⟨a, ha⟩ : ∃ a, (cellsOfA v)[k]? = some a := ⟨_, List.getElem?_eq_getElem (by rw [hcv.length] at hkl; exact hkl)⟩
      obtain ⟨y, hy, hvr⟩ := hcv.get ha
      rw [hk] at hy; cases hy
      exact VR_isCell hvr (List.all_eq_true.1 hall a (List.mem_of_getElem? ha))
    have hrun : ∀ {w' : World}, (storeCells ⟨(ι b).blk, i * z + j, none⟩ cv.cells.toList).run C.P w = .ok () w' → (Instr.storeAt t (.pointer (some ⟨(ι b).blk, i * z + j, none⟩)) cv).run C.P w = .ok () w' := by
      intro w' h
      have hs : ¬ cv.cells.size ≠ inf.size := by simp only [Array.length_toList] at hcl; simp [hcl]
      simp [Instr.storeAt, Instr.sureAddr, storeVar, run_size hi, h]
      simpa using hs
    split at hk
    · rename_i z' cap cs
      rw [putK_iff] at hk; obtain ⟨hle, hk⟩ := hk
      rw [setK_heap] at hk; obtain ⟨_, hk⟩ := hk
      obtain ⟨o, ho, arr, e, fz, rfl, hcs, hcap, hlc, hwr⟩ := H.get hx rfl
      obtain ⟨hc1, hc2, hfz⟩ := hwr rfl
      have hlc' : cv.cells.toList.length = (cellsOfA v).length := hcv.length
      obtain ⟨w', hr, ht⟩ := run_storeCells (P := C.P) (b := (ι b).blk) (o := i * z + j) cv.cells.toList 0 w arr ho hcell (by omega) (fun m hm => hfz _ (by omega))
      refine ⟨w', _, hrun hr, hk, rfl, H.set hx rfl ht ⟨_, e, fz, rfl, ?_, hcap, hlc, fun _ => ⟨?_, ?_, hfz⟩⟩⟩
      · intro k a ha
        rw [putL_get hle] at ha
        have hpa : i * z + j + 0 + cv.cells.toList.length ≤ arr.toList.length := by simp only [Array.length_toList] at *; omega
        have hgoal : (⟨putL arr.toList (i * z + j + 0) cv.cells.toList⟩ : Array Value)[k]? = (putL arr.toList (i * z + j + 0) cv.cells.toList)[k]? := by simp
        rw [hgoal, putL_get hpa]
        rw [Nat.add_zero]
        split at ha
        · rename_i hr'
          rw [if_pos (by omega)]
          obtain ⟨y, hy, hvr⟩ := hcv.get ha
          exact ⟨y, hy, hvr⟩
        · rename_i hr'
          rw [if_neg (by omega)]
          obtain ⟨y, hy, hvr⟩ := hcs k a ha
          exact ⟨y, by simpa using hy, hvr⟩
      · rw [putL_length hle]; exact hc1
      · have hpa : i * z + j + 0 + cv.cells.toList.length ≤ arr.toList.length := by simp only [Array.length_toList] at *; omega
        have : (⟨putL arr.toList (i * z + j + 0) cv.cells.toList⟩ : Array Value).size = arr.size := by
          show (putL _ _ _).length = _
          rw [putL_length hpa]; simp
        rw [this]; exact hc2
    · rename_i cap m cols
      rw [assertB_iff] at hk; obtain ⟨hz, hk⟩ := hk
      have hz : z = cols.length := Nat.eq_of_beq_eq_true hz
      subst hz
      obtain ⟨cols', hk, hcl', hle, hcols⟩ := colsPut_elim hk
      rw [setK_heap] at hk; obtain ⟨_, hk⟩ := hk
      obtain ⟨o, ho, arr, e, fz, rfl, hcs, hcap, hlen, hmc, hwr⟩ := H.get hx rfl
      obtain ⟨hc2, hfz⟩ := hwr rfl
      have hlc' : cv.cells.toList.length = (cellsOfA v).length := hcv.length
      by_cases hemp : (cellsOfA v) = []
      · have hce : cv.cells.toList = [] := List.length_eq_zero_iff.1 (by rw [hlc', hemp]; rfl)
        refine ⟨w, _, hrun (by rw [hce]; simp [storeCells]), hk, rfl, H.set hx rfl (Turn.refl ho) ⟨arr, e, fz, rfl, ?_, hcap, hlen, hmc, fun _ => ⟨by rw [hcl']; exact hc2, by rw [hcl']; exact hfz⟩⟩⟩
        intro q hq k c hc
        obtain ⟨c0, hc0⟩ : ∃ c0, cols[k]? = some c0 := ⟨_, List.getElem?_eq_getElem (by have := (List.getElem?_eq_some_iff.1 hc).1; omega)⟩
        obtain ⟨c', h1, h2, h3, _⟩ := hcols k c0 hc0
        rw [h1] at hc; cases hc
        rw [hcl', hcs q hq k c0 hc0]
        by_cases hqi : q = i
        · subst hqi; rw [h3 (by rw [hemp]; simp; omega)]
        · rw [h2 q hqi]
      · have hpos : 0 < (cellsOfA v).length := by cases hcc : cellsOfA v with | nil => exact absurd hcc hemp | cons => simp
        have him : i < m := by
          rcases hil with h0 | h0
          · omega
          · rw [← hlen]; exact h0
        have hbnd : i * cols.length + j + cv.cells.toList.length ≤ (ι b).cap * cols.length := by
          have := row_lt (i := i) (j := j + cv.cells.toList.length - 1) (z := cols.length) (m := (ι b).cap) (by omega) (by omega)
          omega
        obtain ⟨w', hr, ht⟩ := run_storeCells (P := C.P) (b := (ι b).blk) (o := i * cols.length + j) cv.cells.toList 0 w arr ho hcell (by omega) (fun m hm => hfz _ (by omega))
        have hpa : i * cols.length + j + 0 + cv.cells.toList.length ≤ arr.toList.length := by simp only [Array.length_toList] at *; omega
        have hsz' : (⟨putL arr.toList (i * cols.length + j + 0) cv.cells.toList⟩ : Array Value).size = arr.size := by
          show (putL _ _ _).length = _
          rw [putL_length hpa]; simp
        refine ⟨w', _, hrun hr, hk, rfl, H.set hx rfl ht ⟨_, e, fz, rfl, ?_, hcap, hlen, hmc, fun _ => ⟨by rw [hcl', hsz']; exact hc2, by rw [hcl']; exact hfz⟩⟩⟩
        intro q hq k c hc
        have hkz : k < cols.length := by have := (List.getElem?_eq_some_iff.1 hc).1; omega
        obtain ⟨c0, hc0⟩ : ∃ c0, cols[k]? = some c0 := ⟨_, List.getElem?_eq_getElem hkz⟩
        obtain ⟨c', h1, h2, h3, h4⟩ := hcols k c0 hc0
        rw [h1] at hc; cases hc
        have hgoal : (⟨putL arr.toList (i * cols.length + j + 0) cv.cells.toList⟩ : Array Value)[q * cols'.length + k]? = (putL arr.toList (i * cols.length + j + 0) cv.cells.toList)[q * cols'.length + k]? := by simp
        rw [hgoal, putL_get hpa, hcl', Nat.add_zero]
        have hold := hcs q hq k c0 hc0
        by_cases hqi : q = i
        · subst hqi
          by_cases hin : j ≤ k ∧ k < j + (cellsOfA v).length
          · rw [if_pos (by omega)]
            obtain ⟨a, ha⟩ : ∃ a, (cellsOfA v)[k - j]? = some a := ⟨_, List.getElem?_eq_getElem (by omega)⟩
            obtain ⟨y, hy, hvr⟩ := hcv.get ha
            have := h4 a hin.1 ha
            subst this
            rw [show q * cols.length + k - (q * cols.length + j) = k - j from by omega, hy, VR_at_eq hvr]
          · rw [if_neg (by omega), h3 (by omega)]
            simpa using hold
        · rw [h2 q hqi, if_neg]
          · simpa using hold
          · intro hh
            rcases Nat.lt_or_gt_of_ne hqi with hlt | hlt
            · have := row_lt (i := q) (j := k) (z := cols.length) (m := i) hlt hkz; omega
            · have := Nat.mul_le_mul_right cols.length hlt
              rw [Nat.succ_mul] at this
              omega
    · exact hk.elim
  · exact hk.elim
end Go.Am
