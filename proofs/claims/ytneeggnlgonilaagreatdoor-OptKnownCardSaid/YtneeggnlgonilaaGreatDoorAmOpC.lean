/- Operations that lay new memory, and parts of values. -/
import Derived.Test.YtneeggnlgonilaaGreatDoorAmOpB
namespace Go.Am
variable {C : Ctx} {ι : Inj} {w0 : World} {O : Nat → Prop} {h : Heap} {w : World}

theorem free00 (k : Nat) : Free (0, 0) k := by simp [Free]

theorem intAt_get : ∀ {cs : List AV} {i : Nat} {kd : IntKind} {x : Int}, cs[i]? = some (.int kd x) → intAt cs i = x
  | [], i, kd, x, hc => by simp at hc
  | a :: cs, 0, kd, x, hc => by simp at hc; subst hc; rfl
  | a :: cs, i + 1, kd, x, hc => by
    have hc' : cs[i]? = some (.int kd x) := by simpa using hc
    cases a <;> simp [intAt, intAt_get hc']

def Blk.cols : Blk → List Col
  | .row _ _ _ cols => cols
  | _ => []

theorem mkVarK_elim {t : TypeId} {cs : List AV} {k : Blk → Prop} (hk : mkVarK C t cs k) :
    ∃ blk cap len, k blk ∧ (blk.cols = [] ∨ 0 < len) ∧ ∀ (ι : Inj) n B (vs : Array Value), VRs ι n cs vs.toList → BR ι n blk ⟨B, cap, len⟩ (.cells vs t (0, 0)) := by
  unfold mkVarK at hk
  rw [underK_iff] at hk; obtain ⟨d, hd, hk⟩ := hk
  split at hk
  · rename_i n e
    rw [infoK_iff] at hk; obtain ⟨ie, hi, hk⟩ := hk
    cases hr : C.rowTy t with
    | true =>
      rw [hr, cond_true] at hk
      split at hk
      · rename_i kd x cs'
        rw [assertB_iff] at hk; obtain ⟨ha, hk⟩ := hk
        simp only [Bool.and_eq_true] at ha
        obtain ⟨⟨⟨h1, h2⟩, h3⟩, h4⟩ := ha
        have h1 : ie.size = 1 := Nat.eq_of_beq_eq_true h1
        have h2 : 0 < n := by simp only [Nat.blt] at h2; exact Nat.lt_of_succ_le (Nat.le_of_ble_eq_true h2)
        have h3 : (AV.int kd x :: cs').length = n := Nat.eq_of_beq_eq_true h3
        refine ⟨_, n, n, hk, .inr h2, fun ι m B vs hv => ⟨vs, t, (0, 0), rfl, ?_, fun c hc => by cases hc; rfl, rfl, Nat.le_refl _, fun _ => ⟨?_, fun k _ => free00 k⟩⟩⟩
        · intro i hin j c hc
          have hj : j = 0 := by
            have := (List.getElem?_eq_some_iff.1 hc).1; simpa using this
          subst hj
          simp at hc; subst hc
          obtain ⟨a, ha⟩ : ∃ a, (AV.int kd x :: cs')[i]? = some a := ⟨_, List.getElem?_eq_getElem (by rw [h3]; exact hin)⟩
          obtain ⟨y, hy, hvr⟩ := hv.get ha
          have hak := List.all_eq_true.1 h4 a (List.mem_of_getElem? ha)
          cases a with
          | int kd' z =>
            simp only [decide_eq_true_eq] at hak
            subst hak
            simp only [VR] at hvr
            subst hvr
            simp only [List.length_cons, List.length_nil, Nat.zero_add, Nat.mul_one, Nat.add_zero, Col.val, intAt_get ha]
            simpa using hy
          | _ => simp at hak
        · have := hv.length
          rw [h3] at this
          simp at this ⊢; omega
      · exact hk.elim
    | false =>
      rw [hr, cond_false, assertB_iff] at hk; obtain ⟨hl, hk⟩ := hk
      have hl : n * ie.size = cs.length := Nat.eq_of_beq_eq_true hl
      refine ⟨_, n, n, hk, .inl rfl, fun ι m B vs hv => ⟨vs, t, (0, 0), rfl, fun k a ha => ?_, fun c hc => by cases hc; exact ⟨rfl, rfl⟩, Nat.le_refl _, fun _ => ⟨by simp only; omega, ?_, fun k _ => free00 k⟩⟩⟩
      · obtain ⟨y, hy, hvr⟩ := hv.get ha; exact ⟨y, by simpa using hy, hvr⟩
      · have := hv.length
        simp only [Array.length_toList] at this
        simp only; omega
  · rw [lenN_iff] at hk
    refine ⟨_, 0 + cs.length, 0 + cs.length, hk, .inl rfl, fun ι m B vs hv => ⟨vs, t, (0, 0), rfl, fun k a ha => ?_, fun c hc => by cases hc; exact ⟨rfl, rfl⟩, Nat.le_refl _, fun _ => ⟨by simp, ?_, fun k _ => free00 k⟩⟩⟩
    · obtain ⟨y, hy, hvr⟩ := hv.get ha; exact ⟨y, by simpa using hy, hvr⟩
    · have := hv.length
      simp only [Array.length_toList] at this
      simp; omega

/-- A new variable, by its cells. -/
theorem newVar_done {t : TypeId} {cs : List AV} {K : KR} (hk : mkVarK C t cs fun blk => h.pushK blk fun b h' => opK.rowOrCells blk b h' K) (H : HR w0 O ι h w) {v : Value} (hv : VRs ι h.nx cs v.cells.toList) :
    ∃ cv w', (newVar t v).run C.P w = .ok cv w' ∧ Done w0 O ι h K (.pointer (some cv)) w' := by
  obtain ⟨blk, cap, len, hk, hcol, hbr⟩ := mkVarK_elim hk
  rw [pushK_heap] at hk
  have hext := newI_ext ι h.nx ⟨w.heap.size, cap, len⟩
  have H' := H.push blk (.cells v.cells t (0, 0)) cap len (hbr _ _ _ _ (hv.mono hext (Nat.le_succ _)))
  refine ⟨⟨w.heap.size, 0, none⟩, _, rfl, ?_⟩
  cases blk with
  | row wr c n cols =>
    refine ⟨_, _, _, hk, hext, Nat.le_succ _, H', ?_⟩
    simp only [VR, newI_same]
    refine ⟨Nat.lt_succ_self _, ?_, by simp⟩
    rcases hcol with h0 | h0
    · left; simp only [Blk.cols] at h0; simp [h0]
    · right; exact h0
  | _ =>
    refine ⟨_, _, _, hk, hext, Nat.le_succ _, H', ?_⟩
    simp [VR]

theorem run_mapM_list {P : Program} {α β : Type} {f : α → Sem β} {g : α → β} (w : World) : ∀ (l : List α), (∀ x ∈ l, (f x).run P w = .ok (g x) w) → (l.mapM f).run P w = .ok (l.map g) w
  | [], _ => by simp [List.mapM_nil]
  | x :: l, hx => by
    simp [List.mapM_cons, hx x (by simp), run_mapM_list w l fun y hy => hx y (by simp [hy])]

theorem run_mapM {P : Program} {α β : Type} {f : α → Sem β} {g : α → β} (w : World) (l : Array α) (hx : ∀ x ∈ l.toList, (f x).run P w = .ok (g x) w) : (l.mapM f).run P w = .ok (l.map g) w := by
  rw [Array.mapM_eq_mapM_toList]
  simp only [Sem.run_map, run_mapM_list w l.toList hx, Result.andThen_ok]
  congr 1
  apply Array.ext'
  simp

theorem setAll : ∀ (v : List Value) (k off : Nat) (cells : Array Value), off + k + v.length ≤ cells.size →
    ((v.zipIdx k).foldl (fun cs (c, j) => cs.setIfInBounds (off + j) c) cells).toList = putL cells.toList (off + k) v
  | [], k, off, cells, _ => by simp [putL]
  | x :: v, k, off, cells, hle => by
    simp only [List.length_cons] at hle
    simp only [List.zipIdx_cons, List.foldl_cons]
    rw [setAll v (k + 1) off (cells.setIfInBounds (off + k) x) (by simp; omega)]
    apply List.ext_getElem?
    intro m
    have e : off + (k + 1) = off + k + 1 := by omega
    rw [putL_get (by simp; omega), putL_get (by simp; omega), e]
    simp only [Array.toList_setIfInBounds, List.getElem?_set, List.length_cons]
    by_cases h1 : m = off + k
    · subst h1
      rw [if_neg (by omega), if_pos rfl, if_pos (by simp; omega), if_pos (by omega)]
      simp
    · by_cases h2 : off + k + 1 ≤ m ∧ m < off + k + 1 + v.length
      · rw [if_pos h2, if_pos (by omega)]
        rw [show m - (off + k) = (m - (off + k + 1)) + 1 from by omega]
        simp
      · rw [if_neg h2, if_neg (by omega), if_neg (by omega)]

theorem fillK_elim {place : Nat → Option (Nat × Nat)} {place' : Nat → Option (Nat × Nat)} {n : Nat} (hpl : ∀ i p, place i = some p → place' i = some p) : ∀ {ps : List (Nat × AV)} {cs : List AV} {k : List AV → Prop} {cps : List (Nat × Value)} {ccs : Array Value}, fillK place ps cs k →
    cps.length = ps.length → (∀ (q : Nat) (p : Nat × AV), ps[q]? = some p → ∃ cp : Nat × Value, cps[q]? = some cp ∧ cp.1 = p.1 ∧ VR ι n p.2 cp.2) → VRs ι n cs ccs.toList →
    ∃ cs' ccs', k cs' ∧ VRs ι n cs' ccs'.toList ∧ Instr.fill place' ccs cps = some ccs'
  | [], cs, k, cps, ccs, hk, hl, _, hv => by
    have : cps = [] := List.length_eq_zero_iff.1 hl
    subst this
    exact ⟨cs, ccs, hk, hv, rfl⟩
  | (i, v) :: ps, cs, k, [], ccs, hk, hl, _, hv => by simp at hl
  | (i, v) :: ps, cs, k, (i', cv) :: cps, ccs, hk, hl, hp, hv => by
    simp only [fillK] at hk
    rw [optK_iff] at hk; obtain ⟨p, hpi, hk⟩ := hk
    rw [cellsK_iff, assertB_iff] at hk; obtain ⟨hs, hk⟩ := hk
    rw [putK_iff] at hk; obtain ⟨hle, hk⟩ := hk
    obtain ⟨cp, h0, h1, h2⟩ := hp 0 (i, v) rfl
    simp at h0; subst h0
    simp only at h1 h2
    subst h1
    have hcv := VR_cells h2
    have hs : (cellsOfA v).length = p.2 := Nat.eq_of_beq_eq_true hs
    have hcl : cv.cells.toList.length = (cellsOfA v).length := hcv.length
    have hccl : ccs.toList.length = cs.length := hv.length
    have hset := setAll cv.cells.toList 0 p.1 ccs (by simp only [Array.length_toList] at hccl; omega)
    rw [Nat.add_zero] at hset
    have hv' : VRs ι n (putL cs p.1 (cellsOfA v)) ((cv.cells.zipIdx).foldl (fun cs (c, j) => cs.setIfInBounds (p.1 + j) c) ccs).toList := by
      have e : ((cv.cells.zipIdx).foldl (fun cs (c, j) => cs.setIfInBounds (p.1 + j) c) ccs).toList = putL ccs.toList p.1 cv.cells.toList := by
        rw [← hset]
        congr 1
        rw [← Array.foldl_toList]
        simp
      rw [e]
      refine VRs.of_get (by rw [putL_length (by omega), putL_length hle]; exact hccl) fun q a ha => ?_
      rw [putL_get hle] at ha
      rw [putL_get (by omega)]
      split at ha
      · rw [if_pos (by omega)]; exact hcv.get ha
      · rw [if_neg (by omega)]; exact hv.get ha
    obtain ⟨cs', ccs', hk, hvr, hf⟩ := fillK_elim hpl hk (by simpa using hl) (fun q p hq => hp (q + 1) p (by simpa using hq)) hv'
    refine ⟨cs', ccs', hk, hvr, ?_⟩
    unfold Instr.fill
    rw [hpl _ _ hpi]
    simp only
    rw [if_neg]
    · exact hf
    · simp only [Array.length_toList] at hcl hccl
      simp; omega

theorem buildK_elim {t : TypeId} {ps : List (Nat × AV)} {K : KV} (hk : buildK C t ps K) {n : Nat} {cps : Array (Nat × Value)} (hl : cps.toList.length = ps.length)
    (hp : ∀ (q : Nat) (p : Nat × AV), ps[q]? = some p → ∃ cp : Nat × Value, cps.toList[q]? = some cp ∧ cp.1 = p.1 ∧ VR ι n p.2 cp.2) :
    ∃ v cv, K v ∧ VR ι n v cv ∧ ∀ w, (Instr.build t cps).run C.P w = .ok cv w := by
  unfold buildK at hk
  obtain ⟨z, cz, hk, hz, hzv⟩ := zeroK_elim hk
  rw [cellsK_iff, underK_iff] at hk; obtain ⟨d, hd, hk⟩ := hk
  have hzc := VR_cells (hzv ι n)
  split at hk
  · rename_i fs
    rw [assertB_iff] at hk; obtain ⟨hall, hk⟩ := hk
    have hall := List.all_eq_true.1 hall
    have hplaces : ∀ w, (fs.mapM fun f => do pure (f.offset, ← sizeOf f.type) : Sem (Array (Nat × Nat))).run C.P w = .ok (fs.map fun f => (f.offset, C.P.cellsOf f.type)) w := by
      intro w
      refine run_mapM w fs fun f hf => ?_
      obtain ⟨inf, hinf⟩ := Option.isSome_iff_exists.1 (hall f hf)
      simp [run_size hinf, Program.cellsOf, hinf]
    obtain ⟨cs', ccs', hk, hvr, hf⟩ := fillK_elim (place' := fun i => (fs.map fun f => (f.offset, C.P.cellsOf f.type))[i]?) (by
      intro i p hpi
      split at hpi
      · rename_i f hf
        obtain ⟨inf, hinf, rfl⟩ := Option.map_eq_some_iff.1 hpi
        simp [hf, Program.cellsOf, hinf]
      · cases hpi) hk hl hp hzc
    refine ⟨_, .agg ccs', hk, ⟨_, rfl, hvr⟩, fun w => ?_⟩
    simp only [Instr.build, Sem.run_bind, hz, Result.andThen_ok, run_underlying hd, hplaces]
    show Sem.run C.P (match Instr.fill (fun i => (fs.map fun f => (f.offset, C.P.cellsOf f.type))[i]?) cz.cells cps.toList with | some cells => pure (Value.agg cells) | _ => stuck _) w = _
    rw [hf]
    rfl
  · rename_i m e
    rw [infoK_iff] at hk; obtain ⟨ie, hi, hk⟩ := hk
    obtain ⟨cs', ccs', hk, hvr, hf⟩ := fillK_elim (place' := fun i => some (i * ie.size, ie.size)) (fun _ _ h => h) hk hl hp hzc
    refine ⟨_, .agg ccs', hk, ⟨_, rfl, hvr⟩, fun w => ?_⟩
    simp only [Instr.build, Sem.run_bind, hz, Result.andThen_ok, run_underlying hd, run_size hi]
    simp [hf]
  · exact hk.elim

theorem replicateA_iff {α : Type} {cs : List α} : ∀ {n : Nat} {k : List α → Prop}, replicateA cs n k ↔ k ((List.replicate n cs).flatten)
  | 0, k => by simp [replicateA]
  | n + 1, k => by simp [replicateA, replicateA_iff (n := n), appK_iff, List.replicate_succ]

theorem flatten_get {α : Type} {z : List α} : ∀ (n i : Nat), i < n * z.length → ((List.replicate n z).flatten)[i]? = z[i % z.length]?
  | 0, i, h => by simp at h
  | n + 1, i, h => by
    rw [List.replicate_succ, List.flatten_cons, List.getElem?_append]
    split
    · rename_i hlt; rw [Nat.mod_eq_of_lt hlt]
    · rename_i hge
      have hge : z.length ≤ i := Nat.le_of_not_lt hge
      rw [Nat.succ_mul] at h
      rw [flatten_get n (i - z.length) (by omega)]
      rw [← Nat.mod_eq_sub_mod hge]

theorem zeros_VRs {n m size : Nat} {z : List AV} {cz : Array Value} (hz : VRs ι n z cz.toList) (hs : z.length = size) :
    VRs ι n ((List.replicate m z).flatten) ((Array.range (m * size)).map (fun i => cz[i % cz.size]!)).toList := by
  have hcl : cz.size = z.length := by have := hz.length; simpa using this
  refine VRs.of_get (by simp [hs, Nat.mul_comm]) fun k a ha => ?_
  have hk : k < m * z.length := by
    have := (List.getElem?_eq_some_iff.1 ha).1
    simpa using this
  have hzpos : 0 < z.length := by
    rcases Nat.eq_zero_or_pos z.length with h0 | h0
    · rw [h0] at hk; simp at hk
    · exact h0
  rw [flatten_get m k hk] at ha
  obtain ⟨y, hy, hvr⟩ := hz.get ha
  refine ⟨y, ?_, hvr⟩
  have hlt : k % cz.size < cz.size := Nat.mod_lt _ (by omega)
  have hy' : cz[k % cz.size]? = some y := by rw [hcl]; simpa using hy
  have hk2 : k < m * size := by rw [← hs]; exact hk
  simp only [Array.toList_map, Array.toList_range, List.getElem?_map, List.getElem?_range hk2, Option.map_some]
  rw [getElem!_pos cz (k % cz.size) hlt]
  rw [Array.getElem?_eq_getElem hlt] at hy'
  exact hy'

theorem buildSliceK_elim {t : TypeId} {m : Nat} {ps : List (Nat × AV)} {K : KR} (hk : buildSliceK C t m ps h K) (H : HR w0 O ι h w) {cps : Array (Nat × Value)} (hl : cps.toList.length = ps.length)
    (hp : ∀ (q : Nat) (p : Nat × AV), ps[q]? = some p → ∃ cp : Nat × Value, cps.toList[q]? = some cp ∧ cp.1 = p.1 ∧ VR ι h.nx p.2 cp.2) :
    ∃ cv w', (Instr.buildSlice t m cps).run C.P w = .ok cv w' ∧ Done w0 O ι h K cv w' := by
  unfold buildSliceK at hk
  rw [underK_iff] at hk; obtain ⟨d, hd, hk⟩ := hk
  split at hk
  · rename_i e
    rw [infoK_iff] at hk; obtain ⟨ie, hi, hk⟩ := hk
    rw [assertB_iff] at hk; obtain ⟨hb, hk⟩ := hk
    have hb := Nat.le_of_ble_eq_true hb
    obtain ⟨z, cz, hk, hz, hzv⟩ := zeroK_elim hk
    rw [cellsK_iff, assertB_iff] at hk; obtain ⟨hzl, hk⟩ := hk
    have hzl : (cellsOfA z).length = ie.size := Nat.eq_of_beq_eq_true hzl
    rw [replicateA_iff] at hk
    have hzc := VR_cells (hzv ι h.nx)
    have hv0 := zeros_VRs (m := m) hzc hzl
    obtain ⟨cs', ccs', hk, hvr, hf⟩ := fillK_elim (place' := fun i => some (i * ie.size, ie.size)) (fun _ _ h => h) hk hl hp hv0
    rw [pushK_heap] at hk
    have hext := newI_ext ι h.nx ⟨w.heap.size, m, m⟩
    have hvr' := hvr.mono hext (Nat.le_succ _)
    have hcl : ccs'.size = m * ie.size := by
      have h1 := hvr.length
      have hfl : ∀ (cps : List (Nat × Value)) (c c' : Array Value), Instr.fill (fun i => some (i * ie.size, ie.size)) c cps = some c' → c'.size = c.size := by
        intro cps
        induction cps with
        | nil => intro c c' h; simp [Instr.fill] at h; rw [h]
        | cons p cps ih =>
          intro c c' h
          unfold Instr.fill at h
          simp only at h
          split at h
          · cases h
          · rw [ih _ _ h]
            have : ∀ (l : List (Value × Nat)) (c : Array Value), (l.foldl (fun cs (x : Value × Nat) => cs.setIfInBounds (p.1 * ie.size + x.2) x.1) c).size = c.size := by
              intro l
              induction l with
              | nil => intro c; rfl
              | cons x l ih => intro c; simp [List.foldl_cons, ih]
            rw [← Array.foldl_toList]
            exact this _ _
      have := hfl _ _ _ hf
      simpa using this
    have hlen : cs'.length = m * ie.size := by have := hvr.length; simp only [Array.length_toList] at this; omega
    have H' := H.push (.cells true ie.size (some m) cs') (.cells ccs' e (0, 0)) m m
      ⟨ccs', e, (0, 0), rfl, fun k a ha => (let ⟨y, hy, hvr⟩ := hvr'.get ha; ⟨y, by simpa using hy, hvr⟩), fun c hc => by cases hc; exact ⟨rfl, rfl⟩, Nat.le_refl _, fun _ => ⟨by simp only; omega, by simp only; omega, fun k _ => free00 k⟩⟩
    refine ⟨.slice (some ⟨w.heap.size, 0, none⟩) m m, { w with heap := w.heap.push (.cells ccs' e (0, 0)) }, ?_, _, _, _, hk, hext, Nat.le_succ _, H', ?_⟩
    · simp only [Instr.buildSlice, Sem.run_bind, run_underlying hd, Result.andThen_ok, run_size hi]
      rw [if_neg (by omega)]
      by_cases h0 : m * ie.size = 0
      · rw [if_pos h0]
        have e0 : Array.range 0 = #[] := rfl
        rw [h0, e0] at hf ⊢
        simp only [Sem.run_bind, Sem.run_pure, Result.andThen_ok, List.map_toArray, List.map_nil] at hf ⊢
        show (match Instr.fill (fun i => some (i * ie.size, ie.size)) #[] cps.toList with
          | some cells => (do pure (.slice (some (← newRow e cells)) m m) : Sem Value)
          | _ => stuck "buildSlice: a part of the wrong size").run C.P w = _
        rw [hf]
        rfl
      · rw [if_neg h0]
        simp only [Sem.run_bind, hz, Result.andThen_ok, Sem.run_pure]
        show (match Instr.fill (fun i => some (i * ie.size, ie.size)) ((Array.range (m * ie.size)).map fun i => cz.cells[i % cz.cells.size]!) cps.toList with
          | some cells => (do pure (.slice (some (← newRow e cells)) m m) : Sem Value)
          | _ => stuck "buildSlice: a part of the wrong size").run C.P w = _
        rw [hf]
        rfl
    · simp only [VR, newI_same]
      refine ⟨Nat.lt_succ_self _, by simp, by simp, ⟨w.heap.size, 0, none⟩, rfl, .inr (by simp), by simp⟩
  · exact hk.elim
end Go.Am
